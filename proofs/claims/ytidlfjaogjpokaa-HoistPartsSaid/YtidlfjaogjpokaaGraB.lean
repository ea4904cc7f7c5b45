/- The small functions of the references: equal lists, vectors, the kinds' arguments, the limits. -/
import Derived.Test.YtidlfjaogjpokaaGraA
namespace Go.Proofs.Ytidlfjaogjpokaa
open Go.RowKit

theorem sameInts_any (A1 A2 : Option Addr) (l1 l2 : List Int) (c1 c2 : Nat) (w : World) (h1 : Rd w A1 (ints .i64 l1)) (h2 : Rd w A2 (ints .i64 l2)) (b1 : l1.length ≤ 100000) (b2 : l2.length ≤ 100000) :
    Calls Try.prog 23 #[.slice A1 l1.length c1, .slice A2 l2.length c2] w fun e w' => e = .returned (.bool (decide (l1 = l2))) ∧ Below w.heap.size w w' := by
  have H1 := Lib.hid h1
  have H2 := Lib.hid h2
  clear h1 h2
  by_cases hn : l1.length = l2.length
  · have hq : ((l1.length : Int) == (l2.length : Int)) = true := by simp; omega
    have hq' : ((l1.length : Int) != (l2.length : Int)) = false := by simp; omega
    have HN := Lib.hid hn
    clear hn
    go_enter Try.func23, Try.ntmps23
    go_wp2
    go_loopw [5] (fun x wr => ∃ k : Nat, k ≤ l1.length ∧ x = .int .i64 k ∧ Below w.heap.size w wr ∧ Hid (l1.take k = l2.take k)) (fun x _ => l1.length - (intOf x).toNat)
    case atStart => exact ⟨0, by omega, rfl, Below.refl _ _, Lib.hid rfl⟩
    case round =>
      obtain ⟨k, hk, rfl, hB, G⟩ := hrel
      by_cases hlt : k < l1.length
      · have hlt2 : k < l2.length := by have := HN.out; omega
        obtain ⟨a1, o1, rfl, e1⟩ := (H1.out.below hB).intx hlt
        obtain ⟨a2, o2, rfl, e2⟩ := (H2.out.below hB).intx hlt2
        by_cases he : l1[k] = l2[k]
        · have hq2 : (l1[k] == l2[k]) = true := by simpa using he
          have hq3 : (l1[k] != l2[k]) = false := by simpa using he
          have G2 : Hid (l1.take (k + 1) = l2.take (k + 1)) := Lib.hid (by rw [List.take_succ_eq_append_getElem hlt, List.take_succ_eq_append_getElem hlt2, G.out, he])
          clear he G hq hq'
          go_wp2
          go_quiet (fail)
          go_wp2
          exact ⟨⟨k + 1, by omega, by go_num, bl_drewN hB _, G2⟩, by simp [intOf]; omega⟩
        · have hq2 : (l1[k] == l2[k]) = false := by simpa using he
          have hq3 : (l1[k] != l2[k]) = true := by simpa using he
          have hr : Hid (¬ l1 = l2) := Lib.hid (by rintro rfl; exact he rfl)
          clear he G hq hq'
          go_wp2
          go_quiet (fail)
          go_wp2
          go_ret
          exact ⟨ret_bool (decide_eq_false hr.out).symm, bl_drewN hB _⟩
      · have hr : Hid (l1 = l2) := Lib.hid (by
          have h1 := G.out
          have := HN.out
          rwa [List.take_of_length_le (by omega), List.take_of_length_le (by omega)] at h1)
        clear G hq hq'
        go_wp2
        go_ret
        exact ⟨ret_bool (decide_eq_true hr.out).symm, hB⟩
  · have hq : ((l1.length : Int) == (l2.length : Int)) = false := by simp; omega
    have hq' : ((l1.length : Int) != (l2.length : Int)) = true := by simp; omega
    have hr : Hid (¬ l1 = l2) := Lib.hid (by rintro rfl; exact hn rfl)
    clear hn
    go_enter Try.func23, Try.ntmps23
    go_wp2
    go_ret
    exact ⟨ret_bool (decide_eq_false hr.out).symm, Below.refl _ _⟩

theorem rvector_any (N t : Int) (A : Option Addr) (l : List Int) (c' : Nat) (w : World) (hl : Rd w A (ints .i64 l)) (hlen : l.length ≤ 100000) (t1 : 1 ≤ t) (t2 : t ≤ 2147483647) :
    Calls Try.prog 31 #[.int .i64 N, .int .i64 t, .slice A l.length c'] w
      fun e w' => e = .returned (.bool (vecB N t l)) ∧ w = w' := by
  have HL := Lib.hid hl
  clear hl
  have hdiv : (-(t - 1)).tdiv 2 = -((t - 1) / 2) := by rw [Int.neg_tdiv, Int.tdiv_eq_ediv_of_nonneg (by omega)]
  go_enter Try.func31, Try.ntmps31
  go_wp2
  go_loop [7] (fun x => ∃ k : Nat, k ≤ l.length ∧ x = .int .i64 k ∧ Hid (∀ y ∈ l.take k, (decide (-((t - 1) / 2) ≤ y) && decide (y ≤ (t - 1) / 2)) = true)) (fun x => l.length - (intOf x).toNat)
  case atStart => exact ⟨0, by omega, rfl, Lib.hid (by simp)⟩
  case round =>
    obtain ⟨k, hk, rfl, G⟩ := hrel
    by_cases hlt : k < l.length
    · obtain ⟨a1, o1, rfl, e1⟩ := HL.out.intx hlt
      have hm : l[k] ∈ l := List.getElem_mem hlt
      have hno : ¬ (-((t - 1) / 2) ≤ l[k] ∧ l[k] ≤ (t - 1) / 2) → vecB N t l = false := fun h => by
        unfold vecB
        rw [Bool.and_eq_false_iff]
        refine .inr ?_
        rw [List.all_eq_false]
        exact ⟨_, hm, by simpa using h⟩
      have HNo := Lib.hid hno
      clear hno
      by_cases h1 : l[k] < -((t - 1) / 2)
      · have hr : Hid (vecB N t l = false) := Lib.hid (HNo.out (by omega))
        clear hm
        go_wp2
        go_ret
        exact ⟨ret_bool hr.out.symm, rfl⟩
      · by_cases h2 : (t - 1) / 2 < l[k]
        · have hr : Hid (vecB N t l = false) := Lib.hid (HNo.out (by omega))
          clear hm
          go_wp2
          go_ret
          exact ⟨ret_bool hr.out.symm, rfl⟩
        · have G2 : Hid (∀ y ∈ l.take (k + 1), (decide (-((t - 1) / 2) ≤ y) && decide (y ≤ (t - 1) / 2)) = true) := Lib.hid (by
            rw [List.take_succ_eq_append_getElem hlt]
            intro y hy
            rcases List.mem_append.1 hy with h | h
            · exact G.out y h
            · rw [List.mem_singleton.1 h]; simp; omega)
          clear hm G HNo
          go_wp2
          exact ⟨⟨k + 1, by omega, by go_num, G2⟩, by simp [intOf]; omega⟩
    · have hr : Hid (vecB N t l = decide ((l.length : Int) = N)) := Lib.hid (by
        unfold vecB
        have h1 := G.out
        rw [List.take_of_length_le (by omega)] at h1
        rw [List.all_eq_true.2 h1, Bool.and_true])
      clear G
      by_cases hN : (l.length : Int) = N
      · have hq : ((l.length : Int) == N) = true := by simpa using hN
        have hr2 : Hid (vecB N t l = true) := Lib.hid (by rw [hr.out, hN]; simp)
        clear hN hr
        go_wp2
        go_ret
        exact ⟨ret_bool hr2.out.symm, rfl⟩
      · have hq : ((l.length : Int) == N) = false := by simpa using hN
        have hr2 : Hid (vecB N t l = false) := Lib.hid (by rw [hr.out]; simpa using hN)
        clear hN hr
        go_wp2
        go_ret
        exact ⟨ret_bool hr2.out.symm, rfl⟩

/-- does a node of this kind use its number? -/
def hasK (k : Int) : Bool := !(k == 2 || k == 3 || k == 5 || k == 4 || k == 10)
theorem ruses_any (k : Int) (w : World) :
    Calls Try.prog 33 #[.int .i64 k] w fun e w' => e = .returned (.tuple #[.bool (hasA k), .bool (hasB k), .bool (hasK k)]) ∧ w = w' := by
  by_cases h1 : k = 1
  · subst h1
    go_enter Try.func33, Try.ntmps33
    go_wp2
    go_ret3
    exact ⟨rfl, rfl⟩
  · have ha : hasA k = true := by unfold hasA; simpa using h1
    by_cases h2 : k = 2 ∨ k = 3 ∨ k = 5
    · rcases h2 with rfl | rfl | rfl
      all_goals
        go_enter Try.func33, Try.ntmps33
        go_wp2
        go_ret3
        exact ⟨rfl, rfl⟩
    · have hb : hasB k = false := by unfold hasB; simp; omega
      by_cases h3 : k = 4 ∨ k = 10
      · rcases h3 with rfl | rfl
        all_goals
          go_enter Try.func33, Try.ntmps33
          go_wp2
          go_ret3
          exact ⟨rfl, rfl⟩
      · have hk : hasK k = true := by unfold hasK; simp; omega
        have n2 : ¬ k = 2 := by omega
        have n3 : ¬ k = 3 := by omega
        have n4 : ¬ k = 4 := by omega
        have n5 : ¬ k = 5 := by omega
        have n10 : ¬ k = 10 := by omega
        rw [ha, hb, hk]
        clear ha hb hk h2 h3
        go_enter Try.func33, Try.ntmps33
        go_wp2
        go_ret3
        exact ⟨rfl, rfl⟩
end Go.Proofs.Ytidlfjaogjpokaa
