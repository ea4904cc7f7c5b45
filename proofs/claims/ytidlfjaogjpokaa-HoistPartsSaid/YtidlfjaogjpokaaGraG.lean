/- The program's limits: a map of five entries. -/
import Derived.Test.YtidlfjaogjpokaaGraF
import Derived.Test.YtidlfjaogjpokaaMap
namespace Go.Proofs.Ytidlfjaogjpokaa
open Go.RowKit Go.Maps Go.ChangeMaps

def pairV (a b : Int) : Value := .agg #[.int .i64 a, .int .i64 b]
def limEs (n t inp np : Int) : List MapEntry := [⟨.int .i64 1, pairV 0 (inp - 1), 0⟩, ⟨.int .i64 6, pairV (-((t - 1) / 2)) ((t - 1) / 2), 1⟩, ⟨.int .i64 7, pairV 0 (np - 1), 2⟩, ⟨.int .i64 8, pairV 0 (np - 1), 3⟩, ⟨.int .i64 9, pairV 0 (n / 2 - 1), 4⟩]

theorem intKeys_nil : IntKeys [] := fun x h => by simp at h
theorem intKeys_snoc {es : List MapEntry} (h : IntKeys es) (a : Int) (h0 : -9223372036854775808 ≤ a) (h1 : a ≤ 9223372036854775807) (v : Value) (k : Nat) : IntKeys (es ++ [⟨.int .i64 a, v, k⟩]) := fun x hx => by
  rcases List.mem_append.1 hx with h2 | h2
  · exact h x h2
  · rw [List.mem_singleton.1 h2]; exact ⟨a, ⟨h0, h1⟩, rfl⟩

set_option maxRecDepth 100000 in
set_option maxHeartbeats 2000000 in
theorem plimits_any (N pr pw sp wt er t inp : Int) (A : Option Addr) (nl c : Nat) (AP : Option Addr) (np cp : Nat) (AN : Option Addr) (nn cn : Nat) (AO : Option Addr) (no co : Nat) (w : World) (n1 : 1 ≤ N) (n2 : N ≤ 64) (t1 : 1 ≤ t) (t2 : t ≤ 2147483647) (hnp : np ≤ 100000) (i0 : 0 ≤ inp) (i1 : inp ≤ 8) :
    Calls Try.prog 38 #[.agg #[.int .i64 N, .int .u32 pr, .int .i64 pw, .slice A nl c, .int .u32 sp, .int .i64 wt, .int .u32 er], .int .i64 t, .agg #[.int .i64 inp, .slice AP np cp, .slice AN nn cn, .slice AO no co]] w
      fun e w' => ∃ b, e = .returned (.map (some b)) ∧ MapB w' b (limEs N t inp np) 5 ∧ Below w.heap.size w w' := by
  have hdiv : (-(t - 1)).tdiv 2 = -((t - 1) / 2) := by rw [Int.neg_tdiv, Int.tdiv_eq_ediv_of_nonneg (by omega)]
  have hmm := @run_makeMap Try.prog
  have P0 : Blk ((((w.alloc (.cells #[.int .i64 N, .int .u32 pr, .int .i64 pw, .slice A nl c, .int .u32 sp, .int .i64 wt, .int .u32 er] 25)).alloc (.cells #[.int .i64 inp, .slice AP np cp, .slice AN nn cn, .slice AO no co] 30)).alloc (.cells #[.int .i64 0, .int .i64 ((np : Int) - 1)] 82)).alloc (.map #[] 0)) w.heap.size 25 #[.int .i64 N, .int .u32 pr, .int .i64 pw, .slice A nl c, .int .u32 sp, .int .i64 wt, .int .u32 er] := (((Blk.new w _ _).alloc _).alloc _).alloc _
  have T0 : Blk ((((w.alloc (.cells #[.int .i64 N, .int .u32 pr, .int .i64 pw, .slice A nl c, .int .u32 sp, .int .i64 wt, .int .u32 er] 25)).alloc (.cells #[.int .i64 inp, .slice AP np cp, .slice AN nn cn, .slice AO no co] 30)).alloc (.cells #[.int .i64 0, .int .i64 ((np : Int) - 1)] 82)).alloc (.map #[] 0)) (w.heap.size + 1 + 1) 82 #[.int .i64 0, .int .i64 ((np : Int) - 1)] := by
    have := (Blk.new ((w.alloc (.cells #[.int .i64 N, .int .u32 pr, .int .i64 pw, .slice A nl c, .int .u32 sp, .int .i64 wt, .int .u32 er] 25)).alloc (.cells #[.int .i64 inp, .slice AP np cp, .slice AN nn cn, .slice AO no co] 30)) 82 #[.int .i64 0, .int .i64 ((np : Int) - 1)]).alloc (.map #[] 0)
    simpa using this
  have M0 : MapB ((((w.alloc (.cells #[.int .i64 N, .int .u32 pr, .int .i64 pw, .slice A nl c, .int .u32 sp, .int .i64 wt, .int .u32 er] 25)).alloc (.cells #[.int .i64 inp, .slice AP np cp, .slice AN nn cn, .slice AO no co] 30)).alloc (.cells #[.int .i64 0, .int .i64 ((np : Int) - 1)] 82)).alloc (.map #[] 0)) (w.heap.size + 1 + 1 + 1) [] 0 := by
    have := MapB.new (((w.alloc (.cells #[.int .i64 N, .int .u32 pr, .int .i64 pw, .slice A nl c, .int .u32 sp, .int .i64 wt, .int .u32 er] 25)).alloc (.cells #[.int .i64 inp, .slice AP np cp, .slice AN nn cn, .slice AO no co] 30)).alloc (.cells #[.int .i64 0, .int .i64 ((np : Int) - 1)] 82))
    simpa using this
  have b0 : Below w.heap.size w ((((w.alloc (.cells #[.int .i64 N, .int .u32 pr, .int .i64 pw, .slice A nl c, .int .u32 sp, .int .i64 wt, .int .u32 er] 25)).alloc (.cells #[.int .i64 inp, .slice AP np cp, .slice AN nn cn, .slice AO no co] 30)).alloc (.cells #[.int .i64 0, .int .i64 ((np : Int) - 1)] 82)).alloc (.map #[] 0)) := ((((Below.refl _ _).alloc (Nat.le_refl _) _).alloc (by simp) _).alloc (by simp; omega) _).alloc (by simp; omega) _
  have I0 := intKeys_nil
  have c0 := P0.cellv 0 rfl
  have e0 := T0.cellv 0 rfl
  have f0 := T0.cellv 1 rfl
  go_enter Try.func38, Try.ntmps38
  go_wp2_with (first
    | (refine wpList_insert_b _ rfl _ (.const (.int .i64 1)) _ 77 rfl 3 82 Try.underlying3 Try.underlying77 (w.heap.size + 1 + 1 + 1) 0 _ rfl M0 I0 1 (by omega) (by omega) (by simp) (pairV 0 (inp - 1)) rfl rfl ?_; intro w1 M1 q1; have P1 := P0.grown q1 (by simp; omega); have T1 := T0.grown q1 (by simp); have c1 := P1.cellv 0 rfl; have e1 := T1.cellv 0 rfl; have f1 := T1.cellv 1 rfl; have b1 := b0.grown q1 (by have := b0.size; omega) (by simp; omega); have I1 := intKeys_snoc I0 1 (by omega) (by omega) (pairV 0 (inp - 1)) 0)
    | (refine wpList_insert_b _ rfl _ (.const (.int .i64 6)) _ 77 rfl 3 82 Try.underlying3 Try.underlying77 (w.heap.size + 1 + 1 + 1) 1 _ rfl M1 I1 6 (by omega) (by omega) (by simp) (pairV (-((t - 1) / 2)) ((t - 1) / 2)) rfl rfl ?_; intro w2 M2 q2; have P2 := P1.grown q2 (by simp; omega); have T2 := T1.grown q2 (by simp); have c2 := P2.cellv 0 rfl; have e2 := T2.cellv 0 rfl; have f2 := T2.cellv 1 rfl; have b2 := b1.grown q2 (by have := b1.size; omega) (by simp; omega); have I2 := intKeys_snoc I1 6 (by omega) (by omega) (pairV (-((t - 1) / 2)) ((t - 1) / 2)) 1)
    | (refine wpList_insert_b _ rfl _ (.const (.int .i64 7)) _ 77 rfl 3 82 Try.underlying3 Try.underlying77 (w.heap.size + 1 + 1 + 1) 2 _ rfl M2 I2 7 (by omega) (by omega) (by simp) (pairV 0 (np - 1)) rfl rfl ?_; intro w3 M3 q3; have P3 := P2.grown q3 (by simp; omega); have T3 := T2.grown q3 (by simp); have c3 := P3.cellv 0 rfl; have e3 := T3.cellv 0 rfl; have f3 := T3.cellv 1 rfl; have b3 := b2.grown q3 (by have := b2.size; omega) (by simp; omega); have I3 := intKeys_snoc I2 7 (by omega) (by omega) (pairV 0 (np - 1)) 2)
    | (refine wpList_insert_b _ rfl _ (.const (.int .i64 8)) _ 77 rfl 3 82 Try.underlying3 Try.underlying77 (w.heap.size + 1 + 1 + 1) 3 _ rfl M3 I3 8 (by omega) (by omega) (by simp) (pairV 0 (np - 1)) rfl rfl ?_; intro w4 M4 q4; have P4 := P3.grown q4 (by simp; omega); have T4 := T3.grown q4 (by simp); have c4 := P4.cellv 0 rfl; have e4 := T4.cellv 0 rfl; have f4 := T4.cellv 1 rfl; have b4 := b3.grown q4 (by have := b3.size; omega) (by simp; omega); have I4 := intKeys_snoc I3 8 (by omega) (by omega) (pairV 0 (np - 1)) 3)
    | (refine wpList_insert_b _ rfl _ (.const (.int .i64 9)) _ 77 rfl 3 82 Try.underlying3 Try.underlying77 (w.heap.size + 1 + 1 + 1) 4 _ rfl M4 I4 9 (by omega) (by omega) (by simp) (pairV 0 (N / 2 - 1)) rfl rfl ?_; intro w5 M5 q5; have P5 := P4.grown q5 (by simp; omega); have T5 := T4.grown q5 (by simp); have c5 := P5.cellv 0 rfl; have e5 := T5.cellv 0 rfl; have f5 := T5.cellv 1 rfl; have b5 := b4.grown q5 (by have := b4.size; omega) (by simp; omega); have I5 := intKeys_snoc I4 9 (by omega) (by omega) (pairV 0 (N / 2 - 1)) 4))
  go_ret
  exact ⟨_, rfl, by simpa [limEs] using M5, b5⟩
end Go.Proofs.Ytidlfjaogjpokaa
