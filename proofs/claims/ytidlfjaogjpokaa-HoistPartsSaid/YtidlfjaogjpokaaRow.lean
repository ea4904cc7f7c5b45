/-
  HoistParts returns true whatever the parameters and the graph, and every argument reads behind the call as it read before; there is no condition.
-/
import Derived.Test.YtidlfjaogjpokaaRows
import Derived.Test.YtidlfjaogjpokaaRowA
import Derived.Test.YtidlfjaogjpokaaPartC
import Derived.ProofKit
namespace Go.Proofs.Ytidlfjaogjpokaa
open Go.Joins Go.ChangeShapes Go.WideShapes Go.ChangeAt Go.RowKit Go.Deep

/-- the law on every input -/
theorem parts_any (N pr pw sp wt er : Int) (A : Option Addr) (l : List Int) (c : Nat) (inp : Int) (AP : Option Addr) (rs : List RowT) (cp : Nat) (AN : Option Addr) (nodes : List Nd) (cn : Nat) (AO : Option Addr) (outs : List Int) (co : Nat)
    (w : World) (hl : Rd w A (ints .u32 l)) (hc : l.length ≤ c) (hb : ∀ q ∈ l, 0 ≤ q ∧ q < 4294967296)
    (p0 : 0 ≤ pr) (p1 : pr < 4294967296) (r0 : -9223372036854775808 ≤ pw) (r1 : pw ≤ 9223372036854775807) (s0 : 0 ≤ sp) (s1 : sp < 4294967296) (e0 : 0 ≤ er)
    (hP : Rws w AP rs) (hN : Nds w AN nodes) (hO : Rd w AO (ints .i64 outs)) (hcp : rs.length ≤ cp)
    (bK : ∀ x ∈ nodes, -9223372036854775808 ≤ x.1 ∧ x.1 ≤ 9223372036854775807) :
    Calls Try.prog 3 #[.agg #[.int .i64 N, .int .u32 pr, .int .i64 pw, .slice A l.length c, .int .u32 sp, .int .i64 wt, .int .u32 er], .agg #[.int .i64 inp, .slice AP rs.length cp, .slice AN nodes.length cn, .slice AO outs.length co]] w fun e w' => e = .returned (.bool true) ∧ Below w.heap.size w w' := by
  by_cases h1 : 100 < l.length
  · exact parts_beyond N pr pw sp wt er A l c inp AP rs cp AN nodes cn AO outs co w hl hc hb p0 p1 r0 r1 s0 s1 e0 hP hN hO hcp bK (.inl h1)
  cases h2 : beyondB rs nodes.length outs.length 500 with
  | true => exact parts_beyond N pr pw sp wt er A l c inp AP rs cp AN nodes cn AO outs co w hl hc hb p0 p1 r0 r1 s0 s1 e0 hP hN hO hcp bK (.inr h2)
  | false =>
    by_cases h3 : gE M.primeP N pr pw l sp wt er inp (rs.map (·.2.1)) nodes outs = 0
    · exact parts_ok N pr pw sp wt er A l c inp AP rs cp AN nodes cn AO outs co w hl hc hb p0 p1 r0 r1 s0 s1 e0 hP hN hO hcp bK (by omega) h2 h3
    · exact parts_err N pr pw sp wt er A l c inp AP rs cp AN nodes cn AO outs co w hl hc hb p0 p1 r0 r1 s0 s1 e0 hP hN hO hcp bK (by omega) h2 _ rfl (by simpa using h3)

theorem own : ownKnob Try.prog.godebug = none := by kernel_rfl
theorem laidOut : laidOutB Try.prog = true := by kernel_rfl
theorem bd_u32 {x : Int} (h : (Lit.int .u32 x).wf = true) : 0 ≤ x ∧ x < 4294967296 := by
  simp [Lit.wf, IntKind.min, IntKind.max, IntKind.signed, IntKind.bits] at h
  omega
theorem bd_i64 {x : Int} (h : (Lit.int .i64 x).wf = true) : -9223372036854775808 ≤ x ∧ x ≤ 9223372036854775807 := by
  simp [Lit.wf, IntKind.min, IntKind.max, IntKind.signed, IntKind.bits] at h
  omega

set_option maxRecDepth 100000 in
theorem lifted (os : Os) (started : os.Started) (H : Type) (enc : TypeId × Value → H) :
    ReturnsInHanded {} Try.checked os 3 .any (Rows.hoistPartsSpec.pre6 enc Try.prog Try.f3 Rows.hoistPartsRow.domain false) (Rows.hoistPartsSpec.post enc Try.prog Try.f3 false true false false) := by
  refine returnsInHanded_of_change (C := Try.checked) own started (by kernel_rfl) Try.func3
    (ChangeSpec.witness6 (enc := enc) (C := Try.checked) false ⟨#[], #[.agg #[.int .i64 0, .int .u32 0, .int .i64 0, .slice none 0 0, .int .u32 0, .int .i64 0, .int .u32 0], .agg #[.int .i64 0, .slice none 0 0, .slice none 0 0, .slice none 0 0]], []⟩ 8 (by kernel_rfl) (by kernel_rfl) (by kernel_rfl) (by kernel_rfl)) ?_
  intro W base args ds gs before hval0 hW hcnd _
  have hval : ∀ (j : Nat) t v, Try.f3.params[j]? = some t → args[j]? = some v → Value.okWide Try.prog W .any base t v := hval0
  have hW' := hW
  obtain ⟨p, q, hA0, hV, rfl, hfz, hnd⟩ := hW
  have hA : DataW.TrodAll enc Try.prog W 0 (fun _ => true) true Try.f3.params.toList args.toList ds p := hA0
  rw [Try.params3] at hA hval
  obtain ⟨v0, v1, d0, d1, p0, p1, rfl, rfl, rfl, h0, h1⟩ := trodAll_two hA
  obtain ⟨rfl, rfl⟩ := trodVars_none hV
  have k0 := h0
  have k1 := h1
  have lt0 : ∀ x ∈ p0, x.block < W.heap.size := by obtain ⟨m, hm⟩ := k0; exact DataW.trod_lt m _ _ _ hm
  have lt1 : ∀ x ∈ p1, x.block < W.heap.size := by obtain ⟨m, hm⟩ := k1; exact DataW.trod_lt m _ _ _ hm
  obtain ⟨a0, a1, a2, a3, a4, a5, a6, y0, y1, y2, y3, y4, y5, y6, n0, rfl, _, _, t0, t1, t2, t3, t4, t5, t6⟩ := Open.open_agg7 Try.underlying25 (by kernel_rfl) (by kernel_rfl) (hval 0 25 v0 rfl rfl) h0
  obtain ⟨g0, g1, g2, g3, z0, z1, z2, z3, n1, rfl, _, _, u0, u1, u2, u3⟩ := open_agg4 Try.underlying30 (by kernel_rfl) (by kernel_rfl) (hval 1 30 v1 rfl rfl) h1
  obtain ⟨N, e0, _, w0⟩ := DataW.trod_int (k := .i64) (by kernel_rfl) t0
  obtain ⟨pr, e1, _, w1⟩ := DataW.trod_int (k := .u32) (by kernel_rfl) t1
  obtain ⟨pw, e2, _, w2⟩ := DataW.trod_int (k := .i64) (by kernel_rfl) t2
  obtain ⟨A, l, c, e3, hc, hl, hb⟩ := Open.ints_rd (k := .u32) (e := 22) (by kernel_rfl) (by kernel_rfl) (by kernel_rfl) t3
  obtain ⟨sp, e4, _, w4⟩ := DataW.trod_int (k := .u32) (by kernel_rfl) t4
  obtain ⟨wt, e5, _, w5⟩ := DataW.trod_int (k := .i64) (by kernel_rfl) t5
  obtain ⟨er, e6, _, w6⟩ := DataW.trod_int (k := .u32) (by kernel_rfl) t6
  obtain ⟨inp, f0, _, _⟩ := DataW.trod_int (k := .i64) (by kernel_rfl) u0
  obtain ⟨AP, rs, cp, f1, hcp, hP⟩ := Open.rows_rd (e := 62) (q := 2) (by kernel_rfl) (by kernel_rfl) (by kernel_rfl) (by kernel_rfl) (by kernel_rfl) u1
  obtain ⟨AN, nodes, cn, f2, hcn, hN, hK⟩ := Open.nodes_rd (e := 40) (by kernel_rfl) Try.underlying40 (by kernel_rfl) (by kernel_rfl) (by kernel_rfl) (by kernel_rfl) (by kernel_rfl) (by kernel_rfl) u2
  obtain ⟨AO, outs, co, f3, hco, hO, _⟩ := Open.ints_rd (k := .i64) (e := 3) (by kernel_rfl) (by kernel_rfl) (by kernel_rfl) u3
  simp only [List.cons.injEq, and_true] at e0 e1 e2 e4 e5 e6 f0
  subst e0 e1 e2 e3 e4 e5 e6 f0 f1 f2 f3
  clear hA0 hval0
  simp only [List.append_nil] at hW'
  have b1 := bd_u32 w1
  have b2 := bd_i64 w2
  have b4 := bd_u32 w4
  have b6 := bd_u32 w6
  refine (parts_any N pr pw sp wt er A l c inp AP rs cp AN nodes cn AO outs co W hl hc (fun x hx => bd_u32 (hb x hx)) b1.1 b1.2 b2.1 b2.2 b4.1 b4.2 b6.1 hP hN hO hcp (fun x hx => bd_i64 (hK x hx))).mono fun e W' ⟨he, bel⟩ => ?_
  subst he
  exact ⟨_, rfl, _, _, _, [], _, [], hW', trodAll_mk1 (shut_bool Try.underlying4 _), (trodAll_cons_mk (Below.trod laidOut (by kernel_rfl) (of_decide_eq_true (by kernel_rfl)) k0 bel lt0) (trodAll_cons_mk (Below.trod laidOut (by kernel_rfl) (of_decide_eq_true (by kernel_rfl)) k1 bel lt1) trodAll_mk0)), rfl, bel.frame _, fun h => by cases h⟩

theorem hoistParts_over : Rows.hoistPartsRow.holds Try.pinned (OpenSpec.ofChange Rows.hoistPartsSpec) :=
  OpenClaim.holds_of_wide 3 Try.f3 rfl rfl rfl rfl rfl rfl rfl ⟨rfl, rfl, rfl, rfl, rfl⟩ rfl rfl rfl rfl rfl (by kernel_rfl) Try.func3 (by kernel_rfl)
    (of_decide_eq_true (by kernel_rfl)) (by unfold Func.isWrapper; first | (rw [if_pos (by decide +kernel)]; kernel_rfl) | (rw [if_neg (by decide +kernel)]; exact ⟨rfl, rfl⟩))
    (fun os started H enc _ => lifted os started H enc)

/-- the statement -/
theorem hoistParts_proved : Rows.HoistPartsSaid := hoistParts_over
#print axioms hoistParts_proved
end Go.Proofs.Ytidlfjaogjpokaa
