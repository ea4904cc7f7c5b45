/- The program's Depths and Check, whatever the parameters. -/
import Derived.Test.YtidlfjaogjpokaaGraJ
namespace Go.Proofs.Ytidlfjaogjpokaa
open Go.RowKit

theorem pgdepths_any (N pr pw sp wt er : Int) (A : Option Addr) (l : List Int) (c : Nat) (inp : Int) (AP : Option Addr) (rs : List RowT) (cp : Nat) (AN : Option Addr) (nodes : List Nd) (cn : Nat) (AO : Option Addr) (outs : List Int) (co : Nat)
    (w : World) (hl : Rd w A (ints .u32 l)) (hc : l.length ≤ c) (hb : ∀ q ∈ l, 0 ≤ q ∧ q < 4294967296)
    (p0 : 0 ≤ pr) (p1 : pr < 4294967296) (r0 : -9223372036854775808 ≤ pw) (r1 : pw ≤ 9223372036854775807) (s0 : 0 ≤ sp) (s1 : sp < 4294967296) (hlen : l.length ≤ 100000)
    (hP : Rws w AP rs) (hN : Nds w AN nodes) (hO : Rd w AO (ints .i64 outs)) (bP : rs.length ≤ 100000) (bR : ∀ r ∈ rs, r.2.1.length ≤ 100000) (bN : nodes.length ≤ 100000) (bO : outs.length ≤ 100000)
    (bK : ∀ x ∈ nodes, -9223372036854775808 ≤ x.1 ∧ x.1 ≤ 9223372036854775807) :
    Calls Try.prog 24 #[.agg #[.int .i64 N, .int .u32 pr, .int .i64 pw, .slice A l.length c, .int .u32 sp, .int .i64 wt, .int .u32 er], .agg #[.int .i64 inp, .slice AP rs.length cp, .slice AN nodes.length cn, .slice AO outs.length co]] w
      (DepPost w (gE M.primeP N pr pw l sp wt er inp (rs.map (·.2.1)) nodes outs) nodes.length (depsOf nodes)) := by
  by_cases hk : M.checkOf M.primeP N pr pw l sp wt er = true
  · have := pdepths_ok N pr pw sp wt er A l c inp AP rs cp AN nodes cn AO outs co w hl hc hb p0 p1 r0 r1 s0 s1 hlen hP hN hO bP bR bN bO bK hk
    rw [show gE M.primeP N pr pw l sp wt er inp (rs.map (·.2.1)) nodes outs = grE N (M.plainOf M.primeP N pr pw) inp (rs.map (·.2.1)) nodes outs by unfold gE; rw [if_pos hk]]
    exact this
  · exact pdepths_no N pr pw sp wt er A l c inp AP rs cp AN nodes cn AO outs co w hl hc hb p0 p1 r0 r1 s0 s1 hlen hP hN hO bP bR bN bO bK hk

set_option maxRecDepth 100000 in
theorem pgcheck_any (N pr pw sp wt er : Int) (A : Option Addr) (l : List Int) (c : Nat) (inp : Int) (AP : Option Addr) (rs : List RowT) (cp : Nat) (AN : Option Addr) (nodes : List Nd) (cn : Nat) (AO : Option Addr) (outs : List Int) (co : Nat)
    (w : World) (hl : Rd w A (ints .u32 l)) (hc : l.length ≤ c) (hb : ∀ q ∈ l, 0 ≤ q ∧ q < 4294967296)
    (p0 : 0 ≤ pr) (p1 : pr < 4294967296) (r0 : -9223372036854775808 ≤ pw) (r1 : pw ≤ 9223372036854775807) (s0 : 0 ≤ sp) (s1 : sp < 4294967296) (hlen : l.length ≤ 100000)
    (hP : Rws w AP rs) (hN : Nds w AN nodes) (hO : Rd w AO (ints .i64 outs)) (bP : rs.length ≤ 100000) (bR : ∀ r ∈ rs, r.2.1.length ≤ 100000) (bN : nodes.length ≤ 100000) (bO : outs.length ≤ 100000)
    (bK : ∀ x ∈ nodes, -9223372036854775808 ≤ x.1 ∧ x.1 ≤ 9223372036854775807) :
    Calls Try.prog 14 #[.agg #[.int .i64 N, .int .u32 pr, .int .i64 pw, .slice A l.length c, .int .u32 sp, .int .i64 wt, .int .u32 er], .agg #[.int .i64 inp, .slice AP rs.length cp, .slice AN nodes.length cn, .slice AO outs.length co]] w
      fun e w' => e = .returned (.int .i64 (gE M.primeP N pr pw l sp wt er inp (rs.map (·.2.1)) nodes outs)) ∧ Below w.heap.size w w' := by
  have hBo : ∀ o o', Below w.heap.size w ((w.alloc o).alloc o') := fun o o' => ((Below.refl _ _).alloc (Nat.le_refl _) o).alloc (by simp) o'
  have H1 := fun o o' => Lib.hid (pgdepths_any N pr pw sp wt er A l c inp AP rs cp AN nodes cn AO outs co ((w.alloc o).alloc o') ((hl.alloc o).alloc o') hc hb p0 p1 r0 r1 s0 s1 hlen ((hP.alloc o).alloc o') ((hN.alloc o).alloc o') ((hO.alloc o).alloc o') bP bR bN bO bK)
  generalize gE M.primeP N pr pw l sp wt er inp (rs.map (·.2.1)) nodes outs = E at *
  clear hl hb hP hN hO bR bK
  go_enter Try.func14, Try.ntmps14
  go_wp2_with fail
  refine (H1 _ _).out.mono ?_
  rintro e w' ⟨v, rfl, _, _, hb1⟩
  go_wp2
  go_ret
  exact ⟨rfl, bl_then (hBo _ _) hb1 (by simp)⟩
end Go.Proofs.Ytidlfjaogjpokaa
