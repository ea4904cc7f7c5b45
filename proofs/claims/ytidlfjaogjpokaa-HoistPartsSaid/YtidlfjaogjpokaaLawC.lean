/- Equal lists of lists; how much Groups saves. -/
import Derived.Test.YtidlfjaogjpokaaLawB
namespace Go.Proofs.Ytidlfjaogjpokaa
open Go.RowKit

theorem drewN_drewN (w : World) (m n : Nat) : (w.drewN m).drewN n = w.drewN (m + n) := by simp [World.drewN, Nat.add_assoc]
theorem sameInts_q (A1 A2 : Option Addr) (l1 l2 : List Int) (c1 c2 : Nat) (w : World) (h1 : Rd w A1 (ints .i64 l1)) (h2 : Rd w A2 (ints .i64 l2)) (b1 : l1.length ≤ 100000) (b2 : l2.length ≤ 100000) :
    Calls Try.prog 23 #[.slice A1 l1.length c1, .slice A2 l2.length c2] w fun e w' => e = .returned (.bool (decide (l1 = l2))) ∧ ∃ m, w' = w.drewN m := by
  have H1 := Lib.hid h1
  have H2 := Lib.hid h2
  clear h1 h2
  by_cases hn : l1.length = l2.length
  · have hq : ((l1.length : Int) == (l2.length : Int)) = true := by simp; omega
    have hq' : ((l1.length : Int) != (l2.length : Int)) = false := by simp; omega
    have HN := Lib.hid hn
    clear hn
    go_enter Try.func23, Try.ntmps23
    go_wp2
    go_loopw [5] (fun x wr => ∃ k m : Nat, k ≤ l1.length ∧ x = .int .i64 k ∧ Hid (wr = w.drewN m) ∧ Hid (l1.take k = l2.take k)) (fun x _ => l1.length - (intOf x).toNat)
    case atStart => exact ⟨0, 0, by omega, rfl, Lib.hid rfl, Lib.hid rfl⟩
    case round =>
      obtain ⟨k, m, hk, rfl, hw, G⟩ := hrel
      have hB : Below w.heap.size w wr := by rw [hw.out]; exact bl_drewN (Below.refl _ _) m
      by_cases hlt : k < l1.length
      · have hlt2 : k < l2.length := by have := HN.out; omega
        obtain ⟨a1, o1, rfl, e1⟩ := (H1.out.below hB).intx hlt
        obtain ⟨a2, o2, rfl, e2⟩ := (H2.out.below hB).intx hlt2
        by_cases he : l1[k] = l2[k]
        · have hq2 : (l1[k] == l2[k]) = true := by simpa using he
          have hq3 : (l1[k] != l2[k]) = false := by simpa using he
          have G2 : Hid (l1.take (k + 1) = l2.take (k + 1)) := Lib.hid (by rw [List.take_succ_eq_append_getElem hlt, List.take_succ_eq_append_getElem hlt2, G.out, he])
          clear he G hq hq'
          go_wp2
          go_quiet (fail)
          go_wp2
          exact ⟨⟨k + 1, m + _, by omega, by go_num, Lib.hid (by rw [hw.out]; exact drewN_drewN _ _ _), G2⟩, by simp [intOf]; omega⟩
        · have hq2 : (l1[k] == l2[k]) = false := by simpa using he
          have hq3 : (l1[k] != l2[k]) = true := by simpa using he
          have hr : Hid (¬ l1 = l2) := Lib.hid (by rintro rfl; exact he rfl)
          clear he G hq hq'
          go_wp2
          go_quiet (fail)
          go_wp2
          go_ret
          exact ⟨ret_bool (decide_eq_false hr.out).symm, m + _, by rw [hw.out]; exact drewN_drewN _ _ _⟩
      · have hr : Hid (l1 = l2) := Lib.hid (by
          have h1 := G.out
          have := HN.out
          rwa [List.take_of_length_le (by omega), List.take_of_length_le (by omega)] at h1)
        clear G hq hq'
        go_wp2
        go_ret
        exact ⟨ret_bool (decide_eq_true hr.out).symm, m, hw.out⟩
  · have hq : ((l1.length : Int) == (l2.length : Int)) = false := by simp; omega
    have hq' : ((l1.length : Int) != (l2.length : Int)) = true := by simp; omega
    have hr : Hid (¬ l1 = l2) := Lib.hid (by rintro rfl; exact hn rfl)
    clear hn
    go_enter Try.func23, Try.ntmps23
    go_wp2
    go_ret
    exact ⟨ret_bool (decide_eq_false hr.out).symm, 0, rfl⟩

theorem Rws.row {w : World} {A : Option Addr} {rs : List RowT} (h : Rws w A rs) {i : Nat} (hi : i < rs.length) : Rd w rs[i].1 (ints .i64 rs[i].2.1) := h.2 _ (List.getElem_mem hi)
/-- are two lists of lists equal? -/
theorem same_any (A1 A2 : Option Addr) (r1 r2 : List RowT) (c1 c2 : Nat) (w : World) (h1 : Rws w A1 r1) (h2 : Rws w A2 r2) (b1 : r1.length ≤ 100000) (b2 : r2.length ≤ 100000) (d1 : ∀ r ∈ r1, r.2.1.length ≤ 100000) (d2 : ∀ r ∈ r2, r.2.1.length ≤ 100000) :
    Calls Try.prog 11 #[.slice A1 r1.length c1, .slice A2 r2.length c2] w fun e w' => e = .returned (.bool (decide (r1.map (·.2.1) = r2.map (·.2.1)))) ∧ ∃ m, w' = w.drewN m := by
  have H1 := Lib.hid h1
  have H2 := Lib.hid h2
  have D1 := Lib.hid d1
  have D2 := Lib.hid d2
  clear h1 h2 d1 d2
  go_enter Try.func11, Try.ntmps11
  go_wp2
  go_loopw [5] (fun x wr => ∃ k m : Nat, k ≤ r1.length ∧ k ≤ r2.length ∧ x = .int .i64 k ∧ Hid (wr = w.drewN m) ∧ Hid ((r1.map (·.2.1)).take k = (r2.map (·.2.1)).take k)) (fun x _ => r1.length - (intOf x).toNat)
  case atStart => exact ⟨0, 0, by omega, by omega, rfl, Lib.hid rfl, Lib.hid rfl⟩
  case round =>
    obtain ⟨k, m, hk, hk2, rfl, hw, G⟩ := hrel
    have hB : Below w.heap.size w wr := by rw [hw.out]; exact bl_drewN (Below.refl _ _) m
    by_cases hlt : k < r1.length
    · by_cases hlt2 : k < r2.length
      · have K1 := H1.out.below hB
        have K2 := H2.out.below hB
        have HC := fun n => Lib.hid (sameInts_q r1[k].1 r2[k].1 r1[k].2.1 r2[k].2.1 r1[k].2.2 r2[k].2.2 (wr.drewN n) ((K1.row hlt).below (bl_drewN (Below.refl _ _) n)) ((K2.row hlt2).below (bl_drewN (Below.refl _ _) n)) (D1.out _ (List.getElem_mem hlt)) (D2.out _ (List.getElem_mem hlt2)))
        obtain ⟨a1, o1, rfl, e1⟩ := K1.ix hlt
        obtain ⟨a2, o2, rfl, e2⟩ := K2.ix hlt2
        have p1 : decide (k < r1.length) = true := decide_eq_true hlt
        have p2 : decide (k < r2.length) = true := decide_eq_true hlt2
        clear K1 K2
        by_cases he : r1[k].2.1 = r2[k].2.1
        · have hq2 : decide (r1[k].2.1 = r2[k].2.1) = true := by simpa using he
          have G2 : Hid ((r1.map (·.2.1)).take (k + 1) = (r2.map (·.2.1)).take (k + 1)) := Lib.hid (by
            rw [List.take_succ_eq_append_getElem (by simpa using hlt), List.take_succ_eq_append_getElem (by simpa using hlt2), G.out, List.getElem_map, List.getElem_map, he])
          rw [hq2] at HC
          clear he G hq2
          go_wp2
          go_quiet ((go_at_call 23; refine (HC _).out.mono ?_; rintro e w' ⟨rfl, n, rfl⟩; exact ⟨rfl, _, drewN_drewN _ _ _⟩))
          go_wp2
          exact ⟨⟨k + 1, m + _, by omega, by omega, by go_num, Lib.hid (by rw [hw.out]; exact drewN_drewN _ _ _), G2⟩, by simp [intOf]; omega⟩
        · have hq2 : decide (r1[k].2.1 = r2[k].2.1) = false := by simpa using he
          have hr : Hid (¬ r1.map (·.2.1) = r2.map (·.2.1)) := Lib.hid (fun h => he (by
            have h3 := congrArg (fun l : List (List Int) => l[k]?) h
            simpa [List.getElem?_map, List.getElem?_eq_getElem hlt, List.getElem?_eq_getElem hlt2] using h3))
          rw [hq2] at HC
          clear he G hq2
          go_wp2
          go_quiet ((go_at_call 23; refine (HC _).out.mono ?_; rintro e w' ⟨rfl, n, rfl⟩; exact ⟨rfl, _, drewN_drewN _ _ _⟩))
          go_wp2
          go_ret
          exact ⟨ret_bool (decide_eq_false hr.out).symm, m + _, by rw [hw.out]; exact drewN_drewN _ _ _⟩
      · have p1 : decide (k < r1.length) = true := decide_eq_true hlt
        have p2 : decide (k < r2.length) = false := decide_eq_false hlt2
        have hr : Hid (¬ r1.map (·.2.1) = r2.map (·.2.1)) := Lib.hid (fun h => by
          have h3 := congrArg List.length h
          simp at h3; omega)
        have hq : ((r1.length : Int) == (r2.length : Int)) = false := by simp; omega
        clear G
        go_wp2
        go_ret
        exact ⟨ret_bool (decide_eq_false hr.out).symm, m, hw.out⟩
    · have p1 : decide (k < r1.length) = false := decide_eq_false hlt
      by_cases he : r1.length = r2.length
      · have hr : Hid (r1.map (·.2.1) = r2.map (·.2.1)) := Lib.hid (by
          have h1 := G.out
          rwa [List.take_of_length_le (by simp; omega), List.take_of_length_le (by simp; omega)] at h1)
        have hq : ((r1.length : Int) == (r2.length : Int)) = true := by simp; omega
        clear G he
        go_wp2
        go_ret
        exact ⟨ret_bool (decide_eq_true hr.out).symm, m, hw.out⟩
      · have hr : Hid (¬ r1.map (·.2.1) = r2.map (·.2.1)) := Lib.hid (fun h => he (by
          have h3 := congrArg List.length h
          simpa using h3))
        have hq : ((r1.length : Int) == (r2.length : Int)) = false := by simp; omega
        clear G he
        go_wp2
        go_ret
        exact ⟨ret_bool (decide_eq_false hr.out).symm, m, hw.out⟩
end Go.Proofs.Ytidlfjaogjpokaa
