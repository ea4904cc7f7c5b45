/- The reference of layer 26: Check and Depths, whatever the parameters. -/
import Derived.Test.YtidlfjaogjpokaaGraE
namespace Go.Proofs.Ytidlfjaogjpokaa
open Go.RowKit

/-- what Check of a graph returns, whatever the parameters -/
def gE (prime : Int → Bool) (N pr pw : Int) (l : List Int) (sp wt er inp : Int) (rows : List (List Int)) (nodes : List Nd) (outs : List Int) : Int :=
  if M.checkOf prime N pr pw l sp wt er then grE N (M.plainOf prime N pr pw) inp rows nodes outs else 2
theorem checkOf_pw {prime : Int → Bool} {N pr pw : Int} {ch : List Int} {sp wt er : Int} (hk : M.checkOf prime N pr pw ch sp wt er = true) : 1 ≤ pw ∧ 1 ≤ M.plainOf prime N pr pw := by
  have h1 : M.plainOf prime N pr pw ≠ 0 := fun h0 => by
    rw [M.checkOf_no (.inr (.inr (.inr (.inr (.inr (.inr (.inl h0)))))))] at hk
    simp at hk
  have h2 := M.plainOf_le prime N pr pw
  refine ⟨?_, by omega⟩
  rcases Int.lt_or_le pw 1 with h | h
  · exfalso; apply h1; unfold M.plainOf; rw [if_pos]; simp [h]
  · exact h
theorem grE_zero {N t inp : Int} {rows : List (List Int)} {nodes : List Nd} {outs : List Int} (h : grE N t inp rows nodes outs = 0) :
    nodes.length ≤ 400 ∧ rows.length ≤ 400 ∧ 0 ≤ inp ∧ inp ≤ 8 ∧ 1 ≤ outs.length ∧ outs.length ≤ 8 ∧ rows.all (vecB N t) = true ∧ nodesGo N t inp rows.length 0 nodes = true ∧ depB (depsOf nodes) = true ∧ outsB nodes.length outs = true := by
  unfold grE at h
  split at h
  · simp at h
  · split at h
    · simp at h
    · split at h
      · rename_i h1 h2 h3
        simp only [Bool.and_eq_true] at h3
        refine ⟨by omega, by omega, by omega, by omega, by omega, by omega, h3.1, h3.2.1, h3.2.2.1, h3.2.2.2⟩
      · simp at h
theorem grE_cases (N t inp : Int) (rows : List (List Int)) (nodes : List Nd) (outs : List Int) : grE N t inp rows nodes outs = 0 ∨ grE N t inp rows nodes outs = 2 ∨ grE N t inp rows nodes outs = 3 := by
  unfold grE
  repeat' split
  all_goals simp
theorem gE_cases (prime : Int → Bool) (N pr pw : Int) (l : List Int) (sp wt er inp : Int) (rows : List (List Int)) (nodes : List Nd) (outs : List Int) : gE prime N pr pw l sp wt er inp rows nodes outs = 0 ∨ gE prime N pr pw l sp wt er inp rows nodes outs = 2 ∨ gE prime N pr pw l sp wt er inp rows nodes outs = 3 := by
  unfold gE
  split
  · exact grE_cases _ _ _ _ _ _
  · simp
theorem gE_zero {prime : Int → Bool} {N pr pw : Int} {l : List Int} {sp wt er inp : Int} {rows : List (List Int)} {nodes : List Nd} {outs : List Int} (h : gE prime N pr pw l sp wt er inp rows nodes outs = 0) :
    M.checkOf prime N pr pw l sp wt er = true ∧ grE N (M.plainOf prime N pr pw) inp rows nodes outs = 0 := by
  unfold gE at h
  split at h
  · exact ⟨by assumption, h⟩
  · simp at h

theorem rgcheck_any (N pr pw sp wt er : Int) (A : Option Addr) (l : List Int) (c : Nat) (inp : Int) (AP : Option Addr) (rs : List RowT) (cp : Nat) (AN : Option Addr) (nodes : List Nd) (cn : Nat) (AO : Option Addr) (outs : List Int) (co : Nat)
    (w : World) (hl : Rd w A (ints .u32 l)) (hc : l.length ≤ c) (hb : ∀ q ∈ l, 0 ≤ q ∧ q < 4294967296)
    (p0 : 0 ≤ pr) (p1 : pr < 4294967296) (r0 : -9223372036854775808 ≤ pw) (r1 : pw ≤ 9223372036854775807) (s0 : 0 ≤ sp) (s1 : sp < 4294967296) (e0 : 0 ≤ er) (hlen : l.length ≤ 100000)
    (hP : Rws w AP rs) (hN : Nds w AN nodes) (hO : Rd w AO (ints .i64 outs)) (bP : rs.length ≤ 100000) (bR : ∀ r ∈ rs, r.2.1.length ≤ 100000) (bN : nodes.length ≤ 100000) (bO : outs.length ≤ 100000) :
    Calls Try.prog 18 #[.agg #[.int .i64 N, .int .u32 pr, .int .i64 pw, .slice A l.length c, .int .u32 sp, .int .i64 wt, .int .u32 er], .agg #[.int .i64 inp, .slice AP rs.length cp, .slice AN nodes.length cn, .slice AO outs.length co]] w
      fun e w' => e = .returned (.int .i64 (gE M.primeR N pr pw l sp wt er inp (rs.map (·.2.1)) nodes outs)) ∧ Below w.heap.size w w' := by
  by_cases hk : M.checkOf M.primeR N pr pw l sp wt er = true
  · have := rgcheck_ok N pr pw sp wt er A l c inp AP rs cp AN nodes cn AO outs co w hl hc hb p0 p1 r0 r1 s0 s1 e0 hlen hP hN hO bP bR bN bO hk (checkOf_pw hk).1
    rw [show gE M.primeR N pr pw l sp wt er inp (rs.map (·.2.1)) nodes outs = grE N (M.plainOf M.primeR N pr pw) inp (rs.map (·.2.1)) nodes outs by unfold gE; rw [if_pos hk]]
    exact this
  · have := rgcheck_no N pr pw sp wt er A l c inp AP rs.length cp AN nodes.length cn AO outs.length co w hl hc hb p0 p1 r0 r1 s0 s1 e0 hlen (fun h => hk h.1)
    rw [show gE M.primeR N pr pw l sp wt er inp (rs.map (·.2.1)) nodes outs = 2 by unfold gE; rw [if_neg hk]]
    exact this

set_option maxRecDepth 100000 in
theorem rgdepths_err (N pr pw sp wt er : Int) (A : Option Addr) (l : List Int) (c : Nat) (inp : Int) (AP : Option Addr) (rs : List RowT) (cp : Nat) (AN : Option Addr) (nodes : List Nd) (cn : Nat) (AO : Option Addr) (outs : List Int) (co : Nat)
    (w : World) (hl : Rd w A (ints .u32 l)) (hc : l.length ≤ c) (hb : ∀ q ∈ l, 0 ≤ q ∧ q < 4294967296)
    (p0 : 0 ≤ pr) (p1 : pr < 4294967296) (r0 : -9223372036854775808 ≤ pw) (r1 : pw ≤ 9223372036854775807) (s0 : 0 ≤ sp) (s1 : sp < 4294967296) (e0 : 0 ≤ er) (hlen : l.length ≤ 100000)
    (hP : Rws w AP rs) (hN : Nds w AN nodes) (hO : Rd w AO (ints .i64 outs)) (bP : rs.length ≤ 100000) (bR : ∀ r ∈ rs, r.2.1.length ≤ 100000) (bN : nodes.length ≤ 100000) (bO : outs.length ≤ 100000)
    (E : Int) (hE : gE M.primeR N pr pw l sp wt er inp (rs.map (·.2.1)) nodes outs = E) (hE0 : (E != 0) = true) :
    Calls Try.prog 7 #[.agg #[.int .i64 N, .int .u32 pr, .int .i64 pw, .slice A l.length c, .int .u32 sp, .int .i64 wt, .int .u32 er], .agg #[.int .i64 inp, .slice AP rs.length cp, .slice AN nodes.length cn, .slice AO outs.length co]] w
      fun e w' => e = .returned (.tuple #[.slice none 0 0, .int .i64 E]) ∧ Below w.heap.size w w' := by
  have hBo : ∀ o o', Below w.heap.size w ((w.alloc o).alloc o') := fun o o' => ((Below.refl _ _).alloc (Nat.le_refl _) o).alloc (by simp) o'
  have H1 := fun o o' => Lib.hid (rgcheck_any N pr pw sp wt er A l c inp AP rs cp AN nodes cn AO outs co ((w.alloc o).alloc o') ((hl.alloc o).alloc o') hc hb p0 p1 r0 r1 s0 s1 e0 hlen ((hP.alloc o).alloc o') ((hN.alloc o).alloc o') ((hO.alloc o).alloc o') bP bR bN bO)
  rw [hE] at H1
  clear hl hb hP hN hO bR hE
  go_enter Try.func7, Try.ntmps7
  go_wp2_with fail
  refine (H1 _ _).out.mono ?_
  rintro e w' ⟨rfl, hb1⟩
  go_wp2
  go_ret2
  exact ⟨rfl, bl_then (hBo _ _) hb1 (by simp)⟩

set_option maxRecDepth 100000 in
theorem rgdepths_ok (N pr pw sp wt er : Int) (A : Option Addr) (l : List Int) (c : Nat) (inp : Int) (AP : Option Addr) (rs : List RowT) (cp : Nat) (AN : Option Addr) (nodes : List Nd) (cn : Nat) (AO : Option Addr) (outs : List Int) (co : Nat)
    (w : World) (hl : Rd w A (ints .u32 l)) (hc : l.length ≤ c) (hb : ∀ q ∈ l, 0 ≤ q ∧ q < 4294967296)
    (p0 : 0 ≤ pr) (p1 : pr < 4294967296) (r0 : -9223372036854775808 ≤ pw) (r1 : pw ≤ 9223372036854775807) (s0 : 0 ≤ sp) (s1 : sp < 4294967296) (e0 : 0 ≤ er) (hlen : l.length ≤ 100000)
    (hP : Rws w AP rs) (hN : Nds w AN nodes) (hO : Rd w AO (ints .i64 outs)) (bP : rs.length ≤ 100000) (bR : ∀ r ∈ rs, r.2.1.length ≤ 100000) (bN : nodes.length ≤ 100000) (bO : outs.length ≤ 100000)
    (hE : gE M.primeR N pr pw l sp wt er inp (rs.map (·.2.1)) nodes outs = 0) :
    Calls Try.prog 7 #[.agg #[.int .i64 N, .int .u32 pr, .int .i64 pw, .slice A l.length c, .int .u32 sp, .int .i64 wt, .int .u32 er], .agg #[.int .i64 inp, .slice AP rs.length cp, .slice AN nodes.length cn, .slice AO outs.length co]] w
      fun e w' => ∃ A c, e = .returned (.tuple #[.slice A nodes.length c, .int .i64 0]) ∧ Rd w' A (ints .i64 (depsOf nodes)) ∧ nodes.length ≤ c ∧ Below w.heap.size w w' := by
  have hBo : ∀ o o', Below w.heap.size w ((w.alloc o).alloc o') := fun o o' => ((Below.refl _ _).alloc (Nat.le_refl _) o).alloc (by simp) o'
  have H1 := fun o o' => Lib.hid (rgcheck_any N pr pw sp wt er A l c inp AP rs cp AN nodes cn AO outs co ((w.alloc o).alloc o') ((hl.alloc o).alloc o') hc hb p0 p1 r0 r1 s0 s1 e0 hlen ((hP.alloc o).alloc o') ((hN.alloc o).alloc o') ((hO.alloc o).alloc o') bP bR bN bO)
  rw [hE] at H1
  have hRef := Lib.hid (refs_of _ _ _ _ _ (grE_zero (gE_zero hE).2).2.2.2.2.2.2.2.1)
  have HN := Lib.hid hN
  clear hl hb hP hN hO bR hE
  go_enter Try.func7, Try.ntmps7
  go_wp2_with fail
  refine (H1 _ _).out.mono ?_
  rintro e w' ⟨rfl, hb1⟩
  have hB1 := bl_then (hBo _ _) hb1 (by simp)
  obtain ⟨hcc, hcf⟩ := bcell hb1
  go_wp2_with (go_at_call 19; refine (rdepths_any _ _ _ _ _ _ _ _ _ _ _ (HN.out.below hB1) bN hRef.out).mono ?_; rintro e w2 ⟨v, rfl, hown, hb2⟩)
  obtain ⟨A', c', rfl, hD, hc'⟩ := own_rd hown
  go_ret2
  exact ⟨A', c', rfl, hD, hc', bl_then hB1 hb2 (Nat.le_refl _)⟩
end Go.Proofs.Ytidlfjaogjpokaa
