/- The small functions of the laws: Great, wide, Beyond, same. -/
import Derived.Test.YtidlfjaogjpokaaGraF
namespace Go.Proofs.Ytidlfjaogjpokaa
open Go.RowKit

def wideR (rs : List RowT) : Bool := rs.any fun r => decide (100 < r.2.1.length)
theorem wideR_yes {rs : List RowT} {k : Nat} (h : k < rs.length) (h2 : 100 < rs[k].2.1.length) : wideR rs = true :=
  List.any_eq_true.2 ⟨rs[k], List.getElem_mem h, decide_eq_true h2⟩
theorem wideR_no {rs : List RowT} (h : ∀ j (hj : j < rs.length), rs[j].2.1.length ≤ 100) : wideR rs = false := by
  refine List.any_eq_false.2 fun r hr => ?_
  obtain ⟨j, hj, rfl⟩ := List.mem_iff_getElem.1 hr
  have := h j hj
  simp; omega
theorem Rd.rowx {w : World} {A : Option Addr} {rs : List RowT} (h : Rd w A (rs.map rowV)) {i : Nat} (hi : i < rs.length) : ∃ b o, A = some ⟨b, o, none⟩ ∧ w.cell? ⟨b, o + i, none⟩ = some (.slice rs[i].1 rs[i].2.1.length rs[i].2.2) := by
  obtain ⟨b, o, e, hc⟩ := h.ix (i := i) (by simpa using hi)
  exact ⟨b, o, e, by simpa [rowV] using hc⟩

theorem great_any (A : Option Addr) (rs : List RowT) (c : Nat) (w : World) (h1 : Rd w A (rs.map rowV)) (b1 : rs.length ≤ 100000) :
    Calls Try.prog 12 #[.slice A rs.length c] w fun e w' => e = .returned (.bool (wideR rs || decide (50 < rs.length))) ∧ Below w.heap.size w w' := by
  have H1 := Lib.hid h1
  clear h1
  go_enter Try.func12, Try.ntmps12
  go_wp2
  go_loopw [3] (fun x wr => ∃ k : Nat, k ≤ rs.length ∧ x = .int .i64 k ∧ Below w.heap.size w wr ∧ Hid (∀ j (hj : j < rs.length), j < k → rs[j].2.1.length ≤ 100)) (fun x _ => rs.length - (intOf x).toNat)
  case atStart => exact ⟨0, by omega, rfl, Below.refl _ _, Lib.hid (by intro j _ hj; omega)⟩
  case round =>
    obtain ⟨k, hk, rfl, hB, G⟩ := hrel
    by_cases hlt : k < rs.length
    · obtain ⟨a1, o1, rfl, e1⟩ := (H1.out.below hB).rowx hlt
      by_cases he : 100 < rs[k].2.1.length
      · have hq : decide ((100 : Int) < (rs[k].2.1.length : Int)) = true := decide_eq_true (by omega)
        have hr : Hid (wideR rs = true) := Lib.hid (wideR_yes hlt he)
        clear he G
        go_wp2
        go_ret
        exact ⟨ret_bool (by rw [hr.out]; rfl), hB⟩
      · have hq : decide ((100 : Int) < (rs[k].2.1.length : Int)) = false := decide_eq_false (by omega)
        have G2 : Hid (∀ j (hj : j < rs.length), j < k + 1 → rs[j].2.1.length ≤ 100) := Lib.hid (by
          intro j hj hjk
          rcases Nat.lt_or_ge j k with h | h
          · exact G.out j hj h
          · obtain rfl : j = k := by omega
            omega)
        clear he G
        go_wp2
        exact ⟨⟨k + 1, by omega, by go_num, hB, G2⟩, by simp [intOf]; omega⟩
    · have hr : Hid (wideR rs = false) := Lib.hid (wideR_no fun j hj => G.out j hj (by omega))
      clear G
      have hq : decide ((50 : Int) < (rs.length : Int)) = decide (50 < rs.length) := decide_eq_decide.2 (by omega)
      go_wp2
      go_ret
      exact ⟨ret_bool (by rw [hr.out, Bool.false_or]; try exact hq), hB⟩

theorem wide_any (A : Option Addr) (rs : List RowT) (c : Nat) (w : World) (h1 : Rd w A (rs.map rowV)) (b1 : rs.length ≤ 100000) :
    Calls Try.prog 13 #[.slice A rs.length c] w fun e w' => e = .returned (.bool (wideR rs)) ∧ Below w.heap.size w w' := by
  have H1 := Lib.hid h1
  clear h1
  go_enter Try.func13, Try.ntmps13
  go_wp2
  go_loopw [3] (fun x wr => ∃ k : Nat, k ≤ rs.length ∧ x = .int .i64 k ∧ Below w.heap.size w wr ∧ Hid (∀ j (hj : j < rs.length), j < k → rs[j].2.1.length ≤ 100)) (fun x _ => rs.length - (intOf x).toNat)
  case atStart => exact ⟨0, by omega, rfl, Below.refl _ _, Lib.hid (by intro j _ hj; omega)⟩
  case round =>
    obtain ⟨k, hk, rfl, hB, G⟩ := hrel
    by_cases hlt : k < rs.length
    · obtain ⟨a1, o1, rfl, e1⟩ := (H1.out.below hB).rowx hlt
      by_cases he : 100 < rs[k].2.1.length
      · have hq : decide ((100 : Int) < (rs[k].2.1.length : Int)) = true := decide_eq_true (by omega)
        have hr : Hid (wideR rs = true) := Lib.hid (wideR_yes hlt he)
        clear he G
        go_wp2
        go_ret
        exact ⟨ret_bool hr.out.symm, hB⟩
      · have hq : decide ((100 : Int) < (rs[k].2.1.length : Int)) = false := decide_eq_false (by omega)
        have G2 : Hid (∀ j (hj : j < rs.length), j < k + 1 → rs[j].2.1.length ≤ 100) := Lib.hid (by
          intro j hj hjk
          rcases Nat.lt_or_ge j k with h | h
          · exact G.out j hj h
          · obtain rfl : j = k := by omega
            omega)
        clear he G
        go_wp2
        exact ⟨⟨k + 1, by omega, by go_num, hB, G2⟩, by simp [intOf]; omega⟩
    · have hr : Hid (wideR rs = false) := Lib.hid (wideR_no fun j hj => G.out j hj (by omega))
      clear G
      go_wp2
      go_ret
      exact ⟨ret_bool hr.out.symm, hB⟩
/-- does a graph pass the bounds that a law sets on it? -/
def beyondB (rs : List RowT) (nn no m : Nat) : Bool := decide (m < nn) || (decide (500 < rs.length) || (decide (100 < no) || (wideR (rs.take 50) || wideR rs)))
set_option maxRecDepth 100000 in
set_option maxHeartbeats 4000000 in
theorem beyond_any (m : Nat) (inp : Int) (AP : Option Addr) (rs : List RowT) (cp : Nat) (AN : Option Addr) (nn : Nat) (cn : Nat) (AO : Option Addr) (no : Nat) (co : Nat) (w : World)
    (hP : Rd w AP (rs.map rowV)) (hc : rs.length ≤ cp) :
    Calls Try.prog 5 #[.agg #[.int .i64 inp, .slice AP rs.length cp, .slice AN nn cn, .slice AO no co], .int .i64 m] w
      fun e w' => e = .returned (.bool (beyondB rs nn no m)) ∧ Below w.heap.size w w' := by
  have hB := (Below.refl w.heap.size w).alloc (Nat.le_refl _) (.cells #[.int .i64 inp, .slice AP rs.length cp, .slice AN nn cn, .slice AO no co] 30)
  have KG : Blk (w.alloc (.cells #[.int .i64 inp, .slice AP rs.length cp, .slice AN nn cn, .slice AO no co] 30)) w.heap.size 30 #[.int .i64 inp, .slice AP rs.length cp, .slice AN nn cn, .slice AO no co] := Blk.new _ _ _
  have HP := Lib.hid (hP.alloc (.cells #[.int .i64 inp, .slice AP rs.length cp, .slice AN nn cn, .slice AO no co] 30))
  have d1 : (w.alloc (.cells #[.int .i64 inp, .slice AP rs.length cp, .slice AN nn cn, .slice AO no co] 30)).cell? ⟨w.heap.size, 1, none⟩ = some (.slice AP rs.length cp) := KG.cellv 1 rfl
  have d2 : (w.alloc (.cells #[.int .i64 inp, .slice AP rs.length cp, .slice AN nn cn, .slice AO no co] 30)).cell? ⟨w.heap.size, 2, none⟩ = some (.slice AN nn cn) := KG.cellv 2 rfl
  have d3 : (w.alloc (.cells #[.int .i64 inp, .slice AP rs.length cp, .slice AN nn cn, .slice AO no co] 30)).cell? ⟨w.heap.size, 3, none⟩ = some (.slice AO no co) := KG.cellv 3 rfl
  have hw : ∀ W, W = w.alloc (.cells #[.int .i64 inp, .slice AP rs.length cp, .slice AN nn cn, .slice AO no co] 30) → W = w.alloc (.cells #[.int .i64 inp, .slice AP rs.length cp, .slice AN nn cn, .slice AO no co] 30) := fun _ h => h
  unfold beyondB
  by_cases h1 : m < nn
  · have q1 : decide ((m : Int) < (nn : Int)) = true := decide_eq_true (by omega)
    have q1n : decide (m < nn) = true := decide_eq_true h1
    have r1 : decide (m < nn) = true := decide_eq_true h1
    rw [r1]
    clear h1 r1
    go_enter Try.func5, Try.ntmps5
    go_wp2
    go_ret
    exact ⟨rfl, hB⟩
  have q1 : decide ((m : Int) < (nn : Int)) = false := decide_eq_false (by omega)
  have q1n : decide (m < nn) = false := decide_eq_false h1
  have r1 : decide (m < nn) = false := decide_eq_false h1
  rw [r1, Bool.false_or]
  clear h1 r1
  by_cases h1 : 500 < rs.length
  · have q2 : decide ((500 : Int) < (rs.length : Int)) = true := decide_eq_true (by omega)
    have r1 : decide (500 < rs.length) = true := decide_eq_true h1
    rw [r1]
    clear h1 r1
    go_enter Try.func5, Try.ntmps5
    go_wp2
    go_ret
    exact ⟨rfl, hB⟩
  have q2 : decide ((500 : Int) < (rs.length : Int)) = false := decide_eq_false (by omega)
  have r1 : decide (500 < rs.length) = false := decide_eq_false h1
  rw [r1, Bool.false_or]
  have hlen : rs.length ≤ 500 := by omega
  clear h1 r1
  by_cases h1 : 100 < no
  · have q3 : decide ((100 : Int) < (no : Int)) = true := decide_eq_true (by omega)
    have r1 : decide (100 < no) = true := decide_eq_true h1
    rw [r1]
    clear h1 r1
    go_enter Try.func5, Try.ntmps5
    go_wp2
    go_ret
    exact ⟨rfl, hB⟩
  have q3 : decide ((100 : Int) < (no : Int)) = false := decide_eq_false (by omega)
  have r1 : decide (100 < no) = false := decide_eq_false h1
  rw [r1, Bool.false_or]
  clear h1 r1
  have c2 := fun W (hbb : Below (w.heap.size + 1) (w.alloc (.cells #[.int .i64 inp, .slice AP rs.length cp, .slice AN nn cn, .slice AO no co] 30)) W) => Lib.hid (wide_any AP rs cp W (HP.out.below (by simpa using hbb)) (by omega))
  by_cases h50 : rs.length ≤ 50
  · have ht : rs.take 50 = rs := List.take_of_length_le (by omega)
    rw [ht]
    have c1 := Lib.hid (great_any AP rs cp _ HP.out (by omega))
    rw [decide_eq_false (show ¬ 50 < rs.length by omega), Bool.or_false] at c1
    have m1 : decide ((50 : Int) < (rs.length : Int)) = false := decide_eq_false (by omega)
    have m2 : decide ((rs.length : Int) ≤ 50) = true := decide_eq_true (by omega)
    have m3 : (rs.length : Int) ≤ 50 := by omega
    clear HP hP ht
    generalize wideR rs = y1 at *
    go_enter Try.func5, Try.ntmps5
    go_wp2_with fail
    refine c1.out.mono ?_
    rintro e w' ⟨rfl, hb1⟩
    cases y1 with
    | true =>
      go_wp2
      go_ret
      exact ⟨rfl, bl_then hB hb1 (by simp)⟩
    | false =>
      have e1' : w'.cell? ⟨w.heap.size, 1, none⟩ = some (.slice AP rs.length cp) := (KG.keep hb1).cellv 1 rfl
      go_wp2_with fail
      refine (c2 w' (by simpa using hb1)).out.mono ?_
      rintro e w2 ⟨rfl, hb2⟩
      go_wp2
      go_ret
      exact ⟨rfl, bl_then (bl_then hB hb1 (by simp)) hb2 (by have := hb1.size; simp at this; omega)⟩
  · have htk : (rs.take 50).length = 50 := by rw [List.length_take]; omega
    have HT : Rd (w.alloc (.cells #[.int .i64 inp, .slice AP rs.length cp, .slice AN nn cn, .slice AO no co] 30)) AP ((rs.take 50).map rowV) := fun m u hu => HP.out m u (by
      rw [List.map_take, List.getElem?_take] at hu
      split at hu
      · exact hu
      · cases hu)
    have c1 := Lib.hid (great_any AP (rs.take 50) cp _ HT (by omega))
    rw [htk, decide_eq_false (show ¬ 50 < 50 by omega), Bool.or_false] at c1
    have m1 : decide ((50 : Int) < (rs.length : Int)) = true := decide_eq_true (by omega)
    have m2 : decide ((rs.length : Int) < 50) = false := decide_eq_false (by omega)
    have m3 : ¬ (rs.length : Int) ≤ 50 := by omega
    have m5 : ¬ (rs.length : Int) < 50 := by omega
    have m4 : 50 ≤ rs.length := by omega
    clear HP hP HT htk
    generalize wideR (rs.take 50) = y1 at *
    generalize wideR rs = y2 at *
    go_enter Try.func5, Try.ntmps5
    go_wp2_with fail
    refine c1.out.mono ?_
    rintro e w' ⟨rfl, hb1⟩
    cases y1 with
    | true =>
      go_wp2
      go_ret
      exact ⟨rfl, bl_then hB hb1 (by simp)⟩
    | false =>
      have e1' : w'.cell? ⟨w.heap.size, 1, none⟩ = some (.slice AP rs.length cp) := (KG.keep hb1).cellv 1 rfl
      go_wp2_with fail
      refine (c2 w' (by simpa using hb1)).out.mono ?_
      rintro e w2 ⟨rfl, hb2⟩
      go_wp2
      go_ret
      exact ⟨rfl, bl_then (bl_then hB hb1 (by simp)) hb2 (by have := hb1.size; simp at this; omega)⟩
end Go.Proofs.Ytidlfjaogjpokaa
