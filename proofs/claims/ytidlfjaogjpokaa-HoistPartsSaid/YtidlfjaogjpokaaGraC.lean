/- The reference of layer 26: a node's limits, a node, the depths. -/
import Derived.Test.YtidlfjaogjpokaaGraB
namespace Go.Proofs.Ytidlfjaogjpokaa
open Go.RowKit

/-- a node: its kind, its two arguments, its number -/
abbrev Nd := Int × Int × Int × Int
def ndv (x : Nd) : List Value := [.int .i64 x.1, .int .i64 x.2.1, .int .i64 x.2.2.1, .int .i64 x.2.2.2]
def ndA (x : Nd) : Value := .agg #[.int .i64 x.1, .int .i64 x.2.1, .int .i64 x.2.2.1, .int .i64 x.2.2.2]
/-- the slice at A reads as these nodes -/
def Nds (w : World) (A : Option Addr) (l : List Nd) : Prop := Rd w A (l.flatMap ndv)
theorem ndv_len (l : List Nd) : (l.flatMap ndv).length = 4 * l.length := by
  induction l with
  | nil => rfl
  | cons x l ih => rw [List.flatMap_cons, List.length_append, ih]; simp [ndv]; omega
theorem ndv_at (l : List Nd) : ∀ i j (h : i < l.length), j < 4 → (l.flatMap ndv)[4 * i + j]? = (ndv l[i])[j]? := by
  induction l with
  | nil => intro i j h; simp at h
  | cons x l ih =>
    intro i j h hj
    rw [List.flatMap_cons]
    cases i with
    | zero => rw [List.getElem?_append_left (by simp [ndv]; omega)]; simp
    | succ i =>
      rw [List.getElem?_append_right (by simp [ndv]; omega)]
      have := ih i j (by simp at h; omega) hj
      rw [show 4 * (i + 1) + j - (ndv x).length = 4 * i + j by simp [ndv]; omega, this]
      simp
section
variable {w w' : World} {A : Option Addr} {l : List Nd}
theorem Nds.below (h : Nds w A l) (hb : Below w.heap.size w w') : Nds w' A l := Rd.below h hb
theorem Nds.alloc (h : Nds w A l) (o : Obj) : Nds (w.alloc o) A l := Rd.alloc h o
theorem Nds.ix (h : Nds w A l) {i : Nat} (hi : i < l.length) : ∃ b o, A = some ⟨b, o, none⟩ ∧ b < w.heap.size ∧ w.cell? ⟨b, o + i * 4, none⟩ = some (.int .i64 l[i].1) ∧ w.cell? ⟨b, o + i * 4 + 1, none⟩ = some (.int .i64 l[i].2.1) ∧ w.cell? ⟨b, o + i * 4 + 2, none⟩ = some (.int .i64 l[i].2.2.1) ∧ w.cell? ⟨b, o + i * 4 + 3, none⟩ = some (.int .i64 l[i].2.2.2) := by
  have hl := ndv_len l
  obtain ⟨b, o, e, h0⟩ := Rd.ix h (i := 4 * i + 0) (by omega)
  obtain ⟨b', o', e', h1⟩ := Rd.ix h (i := 4 * i + 1) (by omega)
  obtain ⟨b'', o'', e'', h2⟩ := Rd.ix h (i := 4 * i + 2) (by omega)
  obtain ⟨b3, o3, e3, h3⟩ := Rd.ix h (i := 4 * i + 3) (by omega)
  subst e
  injection e' with e'; injection e' with x1 x2; subst x1; subst x2
  injection e'' with e''; injection e'' with x1 x2; subst x1; subst x2
  injection e3 with e3; injection e3 with x1 x2; subst x1; subst x2
  have g0 := ndv_at l i 0 hi (by omega)
  have g1 := ndv_at l i 1 hi (by omega)
  have g2 := ndv_at l i 2 hi (by omega)
  have g3 := ndv_at l i 3 hi (by omega)
  rw [List.getElem?_eq_getElem (by omega)] at g0 g1 g2 g3
  rw [g0] at h0; rw [g1] at h1; rw [g2] at h2; rw [g3] at h3
  have em : i * 4 = 4 * i := Nat.mul_comm _ _
  refine ⟨b, o, rfl, lt_of_cell h0, ?_, ?_, ?_, ?_⟩
  · rw [em]; exact h0
  · rw [em, Nat.add_assoc]; exact h1
  · rw [em, Nat.add_assoc]; exact h2
  · rw [em, Nat.add_assoc]; exact h3
end

def limB (n t inp np : Int) (x : Nd) : Bool :=
  if x.1 = 1 then decide (0 ≤ x.2.2.2) && decide (x.2.2.2 < inp)
  else if x.1 = 6 then decide (-((t - 1) / 2) ≤ x.2.2.2) && decide (x.2.2.2 ≤ (t - 1) / 2)
  else if x.1 = 7 ∨ x.1 = 8 then decide (0 ≤ x.2.2.2) && decide (x.2.2.2 < np)
  else if x.1 = 9 then decide (0 ≤ x.2.2.2) && decide (x.2.2.2 < n / 2)
  else x.2.2.2 == 0

/-- the value of a graph -/
def grV (inp : Int) (AP : Option Addr) (np cp : Nat) (AN : Option Addr) (nn cn : Nat) (AO : Option Addr) (no co : Nat) : Value := .agg #[.int .i64 inp, .slice AP np cp, .slice AN nn cn, .slice AO no co]

set_option maxRecDepth 100000 in
theorem rlimit_any (n t inp : Int) (AP : Option Addr) (np cp : Nat) (AN : Option Addr) (nn cn : Nat) (AO : Option Addr) (no co : Nat) (op a b k : Int) (w : World) (n1 : 1 ≤ n) (n2 : n ≤ 64) (t1 : 1 ≤ t) (t2 : t ≤ 2147483647) (hnp : np ≤ 100000) :
    Calls Try.prog 45 #[.int .i64 n, .int .i64 t, .agg #[.int .i64 inp, .slice AP np cp, .slice AN nn cn, .slice AO no co], .agg #[.int .i64 op, .int .i64 a, .int .i64 b, .int .i64 k]] w
      fun e w' => e = .returned (.bool (limB n t inp np (op, a, b, k))) ∧ Below w.heap.size w w' := by
  have hB : ∀ o o', Below w.heap.size w ((w.alloc o).alloc o') := fun o o' => ((Below.refl _ _).alloc (Nat.le_refl _) o).alloc (by simp) o'
  have hdiv : (-(t - 1)).tdiv 2 = -((t - 1) / 2) := by rw [Int.neg_tdiv, Int.tdiv_eq_ediv_of_nonneg (by omega)]
  have HL : Hid (∀ v : Bool, v = limB n t inp np (op, a, b, k) → limB n t inp np (op, a, b, k) = v) := Lib.hid fun v h => h.symm
  unfold limB at HL ⊢
  by_cases h1 : op = 1
  · subst h1
    go_enter Try.func45, Try.ntmps45
    go_wp2
    all_goals
      go_ret
      exact ⟨ret_bool (by first | (simp [*]; done) | (simp [*]; omega)), hB _ _⟩
  · by_cases h6 : op = 6
    · subst h6
      go_enter Try.func45, Try.ntmps45
      go_wp2
      all_goals
        go_ret
        exact ⟨ret_bool (by first | (simp [*]; done) | (simp [*]; omega)), hB _ _⟩
    · by_cases h7 : op = 7 ∨ op = 8
      · rcases h7 with rfl | rfl
        all_goals
          go_enter Try.func45, Try.ntmps45
          go_wp2
          all_goals
            go_ret
            exact ⟨ret_bool (by first | (simp [*]; done) | (simp [*]; omega)), hB _ _⟩
      · have g7 : ¬ op = 7 := by omega
        have g8 : ¬ op = 8 := by omega
        by_cases h9 : op = 9
        · subst h9
          clear h7
          go_enter Try.func45, Try.ntmps45
          go_wp2
          all_goals
            go_ret
            exact ⟨ret_bool (by first | (simp [*]; done) | (simp [*]; omega)), hB _ _⟩
        · clear h7
          go_enter Try.func45, Try.ntmps45
          go_wp2
          all_goals
            go_ret
            exact ⟨ret_bool (by first | (simp [*]; done) | (simp [*]; omega)), hB _ _⟩

/-- is a node valid, but for its depth? -/
def argB (has : Bool) (i a : Int) : Bool := if has then decide (0 ≤ a) && decide (a < i) else a == 0
def nodeB (n t inp np i : Int) (x : Nd) : Bool := decide (1 ≤ x.1) && decide (x.1 ≤ 10) && argB (hasA x.1) i x.2.1 && argB (hasB x.1) i x.2.2.1 && limB n t inp np x

set_option maxRecDepth 100000 in
set_option maxHeartbeats 1000000 in
theorem rnode_any (n t inp : Int) (AP : Option Addr) (np cp : Nat) (AN : Option Addr) (cn : Nat) (AO : Option Addr) (no co : Nat) (l : List Nd) (i : Nat) (hi : i < l.length) (w : World) (hN : Nds w AN l) (hl : l.length ≤ 100000) (n1 : 1 ≤ n) (n2 : n ≤ 64) (t1 : 1 ≤ t) (t2 : t ≤ 2147483647) (hnp : np ≤ 100000) :
    Calls Try.prog 32 #[.int .i64 n, .int .i64 t, .agg #[.int .i64 inp, .slice AP np cp, .slice AN l.length cn, .slice AO no co], .int .i64 i] w
      fun e w' => e = .returned (.bool (nodeB n t inp np i l[i])) ∧ Below w.heap.size w w' := by
  obtain ⟨b, o, rfl, hb, c0, c1, c2, c3⟩ := hN.ix hi
  have hB : ∀ o o', Below w.heap.size w ((w.alloc o).alloc o') := fun o o' => ((Below.refl _ _).alloc (Nat.le_refl _) o).alloc (by simp) o'
  clear hN
  generalize l[i] = x at *
  obtain ⟨op, x1, x2, k⟩ := x
  dsimp only at c0 c1 c2 c3
  by_cases hr : 1 ≤ op ∧ op ≤ 10
  · obtain ⟨r1, r2⟩ := hr
    have HN : Hid (nodeB n t inp np i (op, x1, x2, k) = (argB (hasA op) i x1 && argB (hasB op) i x2 && limB n t inp np (op, x1, x2, k))) := Lib.hid (by
      unfold nodeB; simp [r1, r2])
    have hlim := fun w' => Lib.hid (rlimit_any n t inp AP np cp (some ⟨b, o, none⟩) l.length cn AO no co op x1 x2 k w' n1 n2 t1 t2 hnp)
    have hcA : (hasA op = true ∧ x1 < 0) ∨ (hasA op = true ∧ (i : Int) ≤ x1) ∨ (hasA op = false ∧ (x1 != 0) = true) ∨ (hasA op = true ∧ 0 ≤ x1 ∧ x1 < i) ∨ (hasA op = false ∧ (x1 != 0) = false ∧ True) := by
      cases hasA op
      · by_cases h : x1 = 0
        · simp [h]
        · have : (x1 != 0) = true := by simpa using h
          simp [this]
      · simp; omega
    have hcB : (hasB op = true ∧ x2 < 0) ∨ (hasB op = true ∧ (i : Int) ≤ x2) ∨ (hasB op = false ∧ (x2 != 0) = true) ∨ (hasB op = true ∧ 0 ≤ x2 ∧ x2 < i) ∨ (hasB op = false ∧ (x2 != 0) = false ∧ True) := by
      cases hasB op
      · by_cases h : x2 = 0
        · simp [h]
        · have : (x2 != 0) = true := by simpa using h
          simp [this]
      · simp; omega
    rcases hcA with ⟨hA, h1⟩ | ⟨hA, h1⟩ | ⟨hA, h1⟩ | ⟨hA, h1, h1'⟩ | ⟨hA, h1, h1'⟩
    iterate 3
      · have hr : Hid (nodeB n t inp np i (op, x1, x2, k) = false) := Lib.hid (by
          rw [HN.out, hA]
          have : argB (hasA op) i x1 = false := by rw [hA]; unfold argB; simp_all <;> omega
          rw [hA] at this
          rw [this]; simp)
        clear HN hlim hcB
        go_enter Try.func32, Try.ntmps32
        go_wp2_with (go_at_call 33; refine (ruses_any _ _).mono ?_; rintro e w' ⟨rfl, rfl⟩)
        all_goals (go_ret; exact ⟨ret_bool hr.out.symm, hB _ _⟩)
    all_goals
      have HN2 : Hid (nodeB n t inp np i (op, x1, x2, k) = (argB (hasB op) i x2 && limB n t inp np (op, x1, x2, k))) := Lib.hid (by
        rw [HN.out, hA]; unfold argB; simp_all)
      clear HN
      rcases hcB with ⟨hBb, h2⟩ | ⟨hBb, h2⟩ | ⟨hBb, h2⟩ | ⟨hBb, h2, h2'⟩ | ⟨hBb, h2, h2'⟩
      iterate 3
        · have hr : Hid (nodeB n t inp np i (op, x1, x2, k) = false) := Lib.hid (by
            have : argB (hasB op) i x2 = false := by rw [hBb]; unfold argB; simp_all <;> omega
            rw [HN2.out, this]; rfl)
          clear HN2 hlim
          go_enter Try.func32, Try.ntmps32
          go_wp2_with (go_at_call 33; refine (ruses_any _ _).mono ?_; rintro e w' ⟨rfl, rfl⟩)
          all_goals (go_ret; exact ⟨ret_bool hr.out.symm, hB _ _⟩)
      all_goals
        have HN3 : Hid (nodeB n t inp np i (op, x1, x2, k) = limB n t inp np (op, x1, x2, k)) := Lib.hid (by
          rw [HN2.out, hBb]; unfold argB; simp_all)
        clear HN2
        go_enter Try.func32, Try.ntmps32
        go_wp2_with (go_at_call 33; refine (ruses_any _ _).mono ?_; rintro e w' ⟨rfl, rfl⟩)
        all_goals first
          | (exfalso; omega)
          | ((with_reducible refine (hlim _).out.mono ?_)
             rintro e w' ⟨rfl, hb2⟩
             go_wp2
             go_ret
             exact ⟨ret_bool HN3.out.symm, bl_then (hB _ _) hb2 (by simp)⟩)
  · have hno : nodeB n t inp np i (op, x1, x2, k) = false := by
      unfold nodeB
      by_cases r1 : 1 ≤ op
      · have r2 : ¬ op ≤ 10 := by omega
        simp [r2]
      · simp [r1]
    rw [hno]
    clear hno
    rcases (show op < 1 ∨ 10 < op by omega) with h | h
    all_goals
      clear hr
      go_enter Try.func32, Try.ntmps32
      go_wp2
      go_ret
      exact ⟨rfl, hB _ _⟩
end Go.Proofs.Ytidlfjaogjpokaa
