/- The program's Depths. -/
import Derived.Test.YtidlfjaogjpokaaGraH
import Derived.Deep.RegionHeld3
import Derived.Deep.DeepCutAuto
namespace Go.Proofs.Ytidlfjaogjpokaa
open Go.RowKit Go.Maps Go.ChangeMaps

theorem has_eq (k : Int) (w : World) :
    Calls Try.prog 39 #[.int .i64 k] w fun e w' => e = .returned (.agg #[.bool (hasA k), .bool (hasB k)]) ∧ w' = w.alloc (.cells #[.bool (hasA k), .bool (hasB k)] 80) := by
  by_cases h1 : k = 1
  · subst h1
    go_enter Try.func39, Try.ntmps39
    go_wp2
    refine bodyPost_ret (results_cell_row (ty := 80) rfl _ _ w.heap.size 80 _ (0, 0) _ rfl (heap_alloc_new w _) Try.underlying80 rfl (by kernel_rfl)) rfl ?_
    exact ⟨rfl, rfl⟩
  · by_cases h2 : k = 2 ∨ k = 3 ∨ k = 5
    · have hb : hasB k = true := by unfold hasB; rcases h2 with rfl | rfl | rfl <;> rfl
      have ha : hasA k = true := by unfold hasA; simpa using h1
      rw [ha, hb]
      rcases h2 with rfl | rfl | rfl
      all_goals
        go_enter Try.func39, Try.ntmps39
        go_wp2
        refine bodyPost_ret (results_cell_row (ty := 80) rfl _ _ w.heap.size 80 _ (0, 0) _ rfl (heap_alloc_new w _) Try.underlying80 rfl (by kernel_rfl)) rfl ?_
        exact ⟨rfl, rfl⟩
    · have hb : hasB k = false := by unfold hasB; simp; omega
      have ha : hasA k = true := by unfold hasA; simpa using h1
      have n2 : ¬ k = 2 := by omega
      have n3 : ¬ k = 3 := by omega
      have n5 : ¬ k = 5 := by omega
      rw [ha, hb]
      clear ha hb h2
      go_enter Try.func39, Try.ntmps39
      go_wp2
      refine bodyPost_ret (results_cell_row (ty := 80) rfl _ _ w.heap.size 80 _ (0, 0) _ rfl (heap_alloc_new w _) Try.underlying80 rfl (by kernel_rfl)) rfl ?_
      exact ⟨rfl, rfl⟩
/-- what Depths returns -/
def DepPost (w : World) (E : Int) (n : Nat) (D : List Int) (e : Ending) (w' : World) : Prop :=
  ∃ v, e = .returned (.tuple #[v, .int .i64 E]) ∧ (E = 0 → ∃ A c, v = .slice A n c ∧ Rd w' A (ints .i64 D) ∧ n ≤ c) ∧ (E ≠ 0 → v = .slice none 0 0) ∧ Below w.heap.size w w'
theorem DepPost.err {w w' : World} {E : Int} {n : Nat} {D : List Int} {e0 : Int} (h : E = e0) (h0 : e0 ≠ 0) (hb : Below w.heap.size w w') : DepPost w E n D (.returned (.tuple #[.slice none 0 0, .int .i64 e0])) w' := by
  subst h
  exact ⟨_, rfl, fun h => absurd h h0, fun _ => rfl, hb⟩
theorem DepPost.ok {w w' : World} {E : Int} {n : Nat} {D : List Int} {A : Option Addr} {c : Nat} (h : E = 0) (hr : Rd w' A (ints .i64 D)) (hc : n ≤ c) (hb : Below w.heap.size w w') : DepPost w E n D (.returned (.tuple #[.slice A n c, .int .i64 0])) w' := by
  subst h
  exact ⟨_, rfl, fun _ => ⟨A, c, rfl, hr, hc⟩, fun h => absurd rfl h, hb⟩

set_option maxRecDepth 100000 in
theorem pdepths_no (N pr pw sp wt er : Int) (A : Option Addr) (l : List Int) (c : Nat) (inp : Int) (AP : Option Addr) (rs : List RowT) (cp : Nat) (AN : Option Addr) (nodes : List Nd) (cn : Nat) (AO : Option Addr) (outs : List Int) (co : Nat)
    (w : World) (hl : Rd w A (ints .u32 l)) (hc : l.length ≤ c) (hb : ∀ q ∈ l, 0 ≤ q ∧ q < 4294967296)
    (p0 : 0 ≤ pr) (p1 : pr < 4294967296) (r0 : -9223372036854775808 ≤ pw) (r1 : pw ≤ 9223372036854775807) (s0 : 0 ≤ sp) (s1 : sp < 4294967296) (hlen : l.length ≤ 100000)
    (hP : Rws w AP rs) (hN : Nds w AN nodes) (hO : Rd w AO (ints .i64 outs)) (bP : rs.length ≤ 100000) (bR : ∀ r ∈ rs, r.2.1.length ≤ 100000) (bN : nodes.length ≤ 100000) (bO : outs.length ≤ 100000)
    (bK : ∀ x ∈ nodes, -9223372036854775808 ≤ x.1 ∧ x.1 ≤ 9223372036854775807)
    (hk : ¬ M.checkOf M.primeP N pr pw l sp wt er = true) :
    Calls Try.prog 24 #[.agg #[.int .i64 N, .int .u32 pr, .int .i64 pw, .slice A l.length c, .int .u32 sp, .int .i64 wt, .int .u32 er], .agg #[.int .i64 inp, .slice AP rs.length cp, .slice AN nodes.length cn, .slice AO outs.length co]] w (DepPost w (gE M.primeP N pr pw l sp wt er inp (rs.map (·.2.1)) nodes outs) nodes.length (depsOf nodes)) := by
  have hE : Hid (gE M.primeP N pr pw l sp wt er inp (rs.map (·.2.1)) nodes outs = 2) := Lib.hid (by unfold gE; rw [if_neg hk])
  have H1 := Lib.hid (pmodulus_no N pr pw sp wt er pw A l c _ ((hl.alloc (.cells #[.int .i64 N, .int .u32 pr, .int .i64 pw, .slice A l.length c, .int .u32 sp, .int .i64 wt, .int .u32 er] 25)).alloc (.cells #[.int .i64 inp, .slice AP rs.length cp, .slice AN nodes.length cn, .slice AO outs.length co] 30)) hc hb p0 p1 r0 r1 s0 s1 hlen (fun h => hk h.1))
  have hB := ((Below.refl w.heap.size w).alloc (Nat.le_refl _) (.cells #[.int .i64 N, .int .u32 pr, .int .i64 pw, .slice A l.length c, .int .u32 sp, .int .i64 wt, .int .u32 er] 25)).alloc (by simp) (.cells #[.int .i64 inp, .slice AP rs.length cp, .slice AN nodes.length cn, .slice AO outs.length co] 30)
  clear hl hb hk hP hN hO bR bK
  go_enter Try.func24, Try.ntmps24
  go_wp2_with fail
  refine H1.out.mono ?_
  rintro e w1 ⟨rfl, hb⟩
  obtain ⟨hcc, hcf⟩ := bcell hb
  have hB1 := bl_then hB hb (by simp)
  go_wp2
  go_ret2
  exact DepPost.err hE.out (by decide) hB1

/-- the range of a node's number -/
def limLo (t k : Int) : Int := if k = 6 then -((t - 1) / 2) else 0
def limHi (n t inp np k : Int) : Int := if k = 1 then inp - 1 else if k = 6 then (t - 1) / 2 else if k = 7 ∨ k = 8 then np - 1 else if k = 9 then n / 2 - 1 else 0
theorem limB_pair (n t inp np : Int) (x : Nd) : limB n t inp np x = (decide ((limLo t x.1) ≤ x.2.2.2) && decide (x.2.2.2 ≤ limHi n t inp np x.1)) := by
  unfold limB limLo limHi
  by_cases h1 : x.1 = 1
  · simp only [h1, if_true]; rw [Bool.eq_iff_iff]; simp; omega
  · by_cases h6 : x.1 = 6
    · simp [h6]
    · by_cases h7 : x.1 = 7 ∨ x.1 = 8
      · simp only [h1, h6, h7, if_true, if_false]; rw [Bool.eq_iff_iff]; simp; omega
      · by_cases h9 : x.1 = 9
        · simp only [h9]; rw [Bool.eq_iff_iff]; simp; omega
        · simp only [h1, h6, h7, h9, if_false]; rw [Bool.eq_iff_iff]; simp; omega
theorem limEs_keys (n t inp np : Int) : IntKeys (limEs n t inp np) := fun x hx => by
  simp only [limEs, List.mem_cons, List.not_mem_nil, or_false] at hx
  rcases hx with rfl | rfl | rfl | rfl | rfl
  · exact ⟨1, by omega, rfl⟩
  · exact ⟨6, by omega, rfl⟩
  · exact ⟨7, by omega, rfl⟩
  · exact ⟨8, by omega, rfl⟩
  · exact ⟨9, by omega, rfl⟩
theorem zero_pair (w : World) : (zeroValue 82).run Try.prog w = .ok (pairV 0 0) w := by kernel_rfl
/-- the look-up in the limits -/
theorem lim_look {n t inp np : Int} {w : World} {b : Nat} (h : MapB w b (limEs n t inp np) 5) (k : Int) (h0 : -9223372036854775808 ≤ k) (h1 : k ≤ 9223372036854775807) :
    (Instr.lookup 77 (.map (some b)) (.int .i64 k) false).run Try.prog w = .ok (.agg #[.int .i64 (limLo t k), .int .i64 (limHi n t inp np k)]) w := by
  refine mapb_get Try.underlying3 Try.underlying77 (zero_pair w) h (limEs_keys _ _ _ _) k h0 h1 _ ?_
  have hall : ∀ (a : Int) (v : Value), (∀ y ∈ limEs n t inp np, y.key = .int .i64 a → y.val = v) ↔ (∀ y ∈ limEs n t inp np, y.key = .int .i64 a → y.val = v) := fun _ _ => Iff.rfl
  by_cases k1 : k = 1
  · subst k1; left; exact ⟨_, by simp [limEs]; left; rfl, rfl, by simp [limLo, limHi, pairV], by simp [limEs, limLo, limHi, pairV]⟩
  · by_cases k6 : k = 6
    · subst k6; left; exact ⟨_, by simp only [limEs, List.mem_cons]; right; left; rfl, rfl, by simp [limLo, limHi, pairV], by simp [limEs, limLo, limHi, pairV]⟩
    · by_cases k7 : k = 7
      · subst k7; left; exact ⟨_, by simp only [limEs, List.mem_cons]; right; right; left; rfl, rfl, by simp [limLo, limHi, pairV], by simp [limEs, limLo, limHi, pairV]⟩
      · by_cases k8 : k = 8
        · subst k8; left; exact ⟨_, by simp only [limEs, List.mem_cons]; right; right; right; left; rfl, rfl, by simp [limLo, limHi, pairV], by simp [limEs, limLo, limHi, pairV]⟩
        · by_cases k9 : k = 9
          · subst k9; left; exact ⟨_, by simp only [limEs, List.mem_cons]; right; right; right; right; left; rfl, rfl, by simp [limLo, limHi, pairV], by simp [limEs, limLo, limHi, pairV]⟩
          · right
            refine ⟨fun x hx => ?_, by simp [limLo, limHi, k1, k6, k7, k8, k9, pairV]⟩
            simp only [limEs, List.mem_cons, List.not_mem_nil, or_false] at hx
            rcases hx with rfl | rfl | rfl | rfl | rfl <;> simp <;> omega
end Go.Proofs.Ytidlfjaogjpokaa
