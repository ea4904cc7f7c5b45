/- The walk of the law: what lies beyond its bounds, and graphs that are not valid. -/
import Derived.Test.YtidlfjaogjpokaaLawA
import Derived.Test.YtidlfjaogjpokaaLawE
import Derived.Test.YtidlfjaogjpokaaPrimeE
namespace Go.Proofs.Ytidlfjaogjpokaa
open Go.RowKit

theorem beyond_bounds {rs : List RowT} {nn no : Nat} (h : beyondB rs nn no 500 = false) : nn ≤ 100000 ∧ rs.length ≤ 100000 ∧ no ≤ 100000 ∧ ∀ r ∈ rs, r.2.1.length ≤ 100000 := by
  unfold beyondB at h
  rw [Bool.or_eq_false_iff, Bool.or_eq_false_iff, Bool.or_eq_false_iff, Bool.or_eq_false_iff] at h
  obtain ⟨h1, h2, h3, h4, h5⟩ := h
  have h1 := of_decide_eq_false h1
  have h2 := of_decide_eq_false h2
  have h3 := of_decide_eq_false h3
  refine ⟨by omega, by omega, by omega, fun r hr => ?_⟩
  have := List.any_eq_false.1 h5 r hr
  simp at this
  omega
set_option maxRecDepth 100000 in
theorem parts_beyond (N pr pw sp wt er : Int) (A : Option Addr) (l : List Int) (c : Nat) (inp : Int) (AP : Option Addr) (rs : List RowT) (cp : Nat) (AN : Option Addr) (nodes : List Nd) (cn : Nat) (AO : Option Addr) (outs : List Int) (co : Nat)
    (w : World) (hl : Rd w A (ints .u32 l)) (hc : l.length ≤ c) (hb : ∀ q ∈ l, 0 ≤ q ∧ q < 4294967296)
    (p0 : 0 ≤ pr) (p1 : pr < 4294967296) (r0 : -9223372036854775808 ≤ pw) (r1 : pw ≤ 9223372036854775807) (s0 : 0 ≤ sp) (s1 : sp < 4294967296) (e0 : 0 ≤ er)
    (hP : Rws w AP rs) (hN : Nds w AN nodes) (hO : Rd w AO (ints .i64 outs)) (hcp : rs.length ≤ cp)
    (bK : ∀ x ∈ nodes, -9223372036854775808 ≤ x.1 ∧ x.1 ≤ 9223372036854775807)
    (hbey : 100 < l.length ∨ beyondB rs nodes.length outs.length 500 = true) :
    Calls Try.prog 3 #[.agg #[.int .i64 N, .int .u32 pr, .int .i64 pw, .slice A l.length c, .int .u32 sp, .int .i64 wt, .int .u32 er], .agg #[.int .i64 inp, .slice AP rs.length cp, .slice AN nodes.length cn, .slice AO outs.length co]] w fun e w' => e = .returned (.bool true) ∧ Below w.heap.size w w' := by
  have KP : Blk (w.alloc (.cells #[.int .i64 N, .int .u32 pr, .int .i64 pw, .slice A l.length c, .int .u32 sp, .int .i64 wt, .int .u32 er] 25)) w.heap.size 25 #[.int .i64 N, .int .u32 pr, .int .i64 pw, .slice A l.length c, .int .u32 sp, .int .i64 wt, .int .u32 er] := Blk.new _ _ _
  have KP1 := KP.alloc (.cells #[.int .i64 inp, .slice AP rs.length cp, .slice AN nodes.length cn, .slice AO outs.length co] 30)
  have KG : Blk ((w.alloc (.cells #[.int .i64 N, .int .u32 pr, .int .i64 pw, .slice A l.length c, .int .u32 sp, .int .i64 wt, .int .u32 er] 25)).alloc (.cells #[.int .i64 inp, .slice AP rs.length cp, .slice AN nodes.length cn, .slice AO outs.length co] 30)) (w.heap.size + 1) 30 #[.int .i64 inp, .slice AP rs.length cp, .slice AN nodes.length cn, .slice AO outs.length co] := by
    have := Blk.new (w.alloc (.cells #[.int .i64 N, .int .u32 pr, .int .i64 pw, .slice A l.length c, .int .u32 sp, .int .i64 wt, .int .u32 er] 25)) 30 #[.int .i64 inp, .slice AP rs.length cp, .slice AN nodes.length cn, .slice AO outs.length co]
    simpa using this
  have hB := ((Below.refl w.heap.size w).alloc (Nat.le_refl _) (.cells #[.int .i64 N, .int .u32 pr, .int .i64 pw, .slice A l.length c, .int .u32 sp, .int .i64 wt, .int .u32 er] 25)).alloc (by simp) (.cells #[.int .i64 inp, .slice AP rs.length cp, .slice AN nodes.length cn, .slice AO outs.length co] 30)
  have HPa := hP.1
  clear hl hb hN hO bK hP
  go_enter Try.func3, Try.ntmps3
  go_wp2_with fail
  refine (shown_any _).mono ?_
  rintro e w1 ⟨rfl, hb1⟩
  have hB1 := bl_then hB hb1 (Nat.le_refl _)
  have K1 := KP1.keep hb1
  have K2 := KG.keep hb1
  clear hB KP KP1 KG hb1
  have d0 : w1.cell? ⟨w.heap.size, 0, none⟩ = some (.int .i64 N) := K1.cellv 0 rfl
  have d1 : w1.cell? ⟨w.heap.size, 1, none⟩ = some (.int .u32 pr) := K1.cellv 1 rfl
  have d2 : w1.cell? ⟨w.heap.size, 2, none⟩ = some (.int .i64 pw) := K1.cellv 2 rfl
  have d3 : w1.cell? ⟨w.heap.size, 3, none⟩ = some (.slice A l.length c) := K1.cellv 3 rfl
  have d4 : w1.cell? ⟨w.heap.size, 4, none⟩ = some (.int .u32 sp) := K1.cellv 4 rfl
  have d5 : w1.cell? ⟨w.heap.size, 5, none⟩ = some (.int .i64 wt) := K1.cellv 5 rfl
  have d6 : w1.cell? ⟨w.heap.size, 6, none⟩ = some (.int .u32 er) := K1.cellv 6 rfl
  have g0 : w1.cell? ⟨w.heap.size + 1, 0, none⟩ = some (.int .i64 inp) := K2.cellv 0 rfl
  have g1 : w1.cell? ⟨w.heap.size + 1, 1, none⟩ = some (.slice AP rs.length cp) := K2.cellv 1 rfl
  have g2 : w1.cell? ⟨w.heap.size + 1, 2, none⟩ = some (.slice AN nodes.length cn) := K2.cellv 2 rfl
  have g3 : w1.cell? ⟨w.heap.size + 1, 3, none⟩ = some (.slice AO outs.length co) := K2.cellv 3 rfl
  by_cases hbig : 100 < l.length
  · have q : decide ((100 : Int) < (l.length : Int)) = true := decide_eq_true (by omega)
    clear hbig hbey HPa
    go_wp2
    go_ret
    exact ⟨rfl, hB1⟩
  · have q : decide ((100 : Int) < (l.length : Int)) = false := decide_eq_false (by omega)
    have hb2 : beyondB rs nodes.length outs.length 500 = true := by
      rcases hbey with h | h
      · exact absurd h hbig
      · exact h
    have HC := Lib.hid (beyond_any 500 inp AP rs cp AN nodes.length cn AO outs.length co w1 (HPa.below hB1) hcp)
    rw [hb2] at HC
    clear hbig hbey hb2 HPa
    go_wp2_with fail
    refine HC.out.mono ?_
    rintro e w2 ⟨rfl, hb2⟩
    go_wp2
    go_ret
    exact ⟨rfl, bl_then hB1 hb2 (Nat.le_refl _)⟩
set_option maxRecDepth 100000 in
theorem parts_err (N pr pw sp wt er : Int) (A : Option Addr) (l : List Int) (c : Nat) (inp : Int) (AP : Option Addr) (rs : List RowT) (cp : Nat) (AN : Option Addr) (nodes : List Nd) (cn : Nat) (AO : Option Addr) (outs : List Int) (co : Nat)
    (w : World) (hl : Rd w A (ints .u32 l)) (hc : l.length ≤ c) (hb : ∀ q ∈ l, 0 ≤ q ∧ q < 4294967296)
    (p0 : 0 ≤ pr) (p1 : pr < 4294967296) (r0 : -9223372036854775808 ≤ pw) (r1 : pw ≤ 9223372036854775807) (s0 : 0 ≤ sp) (s1 : sp < 4294967296) (e0 : 0 ≤ er)
    (hP : Rws w AP rs) (hN : Nds w AN nodes) (hO : Rd w AO (ints .i64 outs)) (hcp : rs.length ≤ cp)
    (bK : ∀ x ∈ nodes, -9223372036854775808 ≤ x.1 ∧ x.1 ≤ 9223372036854775807)
    (hlc : l.length ≤ 100) (hbey : beyondB rs nodes.length outs.length 500 = false)
    (E : Int) (hE : gE M.primeP N pr pw l sp wt er inp (rs.map (·.2.1)) nodes outs = E) (hE0 : (E != 0) = true) :
    Calls Try.prog 3 #[.agg #[.int .i64 N, .int .u32 pr, .int .i64 pw, .slice A l.length c, .int .u32 sp, .int .i64 wt, .int .u32 er], .agg #[.int .i64 inp, .slice AP rs.length cp, .slice AN nodes.length cn, .slice AO outs.length co]] w fun e w' => e = .returned (.bool true) ∧ Below w.heap.size w w' := by
  have KP : Blk (w.alloc (.cells #[.int .i64 N, .int .u32 pr, .int .i64 pw, .slice A l.length c, .int .u32 sp, .int .i64 wt, .int .u32 er] 25)) w.heap.size 25 #[.int .i64 N, .int .u32 pr, .int .i64 pw, .slice A l.length c, .int .u32 sp, .int .i64 wt, .int .u32 er] := Blk.new _ _ _
  have KP1 := KP.alloc (.cells #[.int .i64 inp, .slice AP rs.length cp, .slice AN nodes.length cn, .slice AO outs.length co] 30)
  have KG : Blk ((w.alloc (.cells #[.int .i64 N, .int .u32 pr, .int .i64 pw, .slice A l.length c, .int .u32 sp, .int .i64 wt, .int .u32 er] 25)).alloc (.cells #[.int .i64 inp, .slice AP rs.length cp, .slice AN nodes.length cn, .slice AO outs.length co] 30)) (w.heap.size + 1) 30 #[.int .i64 inp, .slice AP rs.length cp, .slice AN nodes.length cn, .slice AO outs.length co] := by
    have := Blk.new (w.alloc (.cells #[.int .i64 N, .int .u32 pr, .int .i64 pw, .slice A l.length c, .int .u32 sp, .int .i64 wt, .int .u32 er] 25)) 30 #[.int .i64 inp, .slice AP rs.length cp, .slice AN nodes.length cn, .slice AO outs.length co]
    simpa using this
  have hB := ((Below.refl w.heap.size w).alloc (Nat.le_refl _) (.cells #[.int .i64 N, .int .u32 pr, .int .i64 pw, .slice A l.length c, .int .u32 sp, .int .i64 wt, .int .u32 er] 25)).alloc (by simp) (.cells #[.int .i64 inp, .slice AP rs.length cp, .slice AN nodes.length cn, .slice AO outs.length co] 30)
  have hbd := beyond_bounds hbey
  obtain ⟨bN, bP, bO, bR⟩ := hbd
  have hlen : l.length ≤ 100000 := by omega
  have q : decide ((100 : Int) < (l.length : Int)) = false := decide_eq_false (by omega)
  have HBe := fun w' (hb : Below w.heap.size w w') => Lib.hid (beyond_any 500 inp AP rs cp AN nodes.length cn AO outs.length co w' (hP.1.below hb) hcp)
  rw [hbey] at HBe
  have HGr := fun w' (hb' : Below w.heap.size w w') => Lib.hid (groups_err N pr pw sp wt er A l c inp AP rs cp AN nodes cn AO outs co w' (hl.below hb') hc hb p0 p1 r0 r1 s0 s1 hlen (hP.below hb') (hN.below hb') (hO.below hb') bP bR bN bO bK E hE hE0)
  have HDe := fun w' (hb' : Below w.heap.size w w') => Lib.hid (rgdepths_err N pr pw sp wt er A l c inp AP rs cp AN nodes cn AO outs co w' (hl.below hb') hc hb p0 p1 r0 r1 s0 s1 e0 hlen (hP.below hb') (hN.below hb') (hO.below hb') bP bR bN bO E ((Pr.gE_eq N pr pw l sp wt er inp (rs.map (·.2.1)) nodes outs).symm.trans hE) hE0)
  have hEq : (E == E) = true := by simp
  clear hl hb hN hO bK hP bR hbey hE
  go_enter Try.func3, Try.ntmps3
  go_wp2_with fail
  refine (shown_any _).mono ?_
  rintro e w1 ⟨rfl, hb1⟩
  have hB1 := bl_then hB hb1 (Nat.le_refl _)
  have K1 := KP1.keep hb1
  have K2 := KG.keep hb1
  clear hB KP KP1 KG hb1
  have d0 : w1.cell? ⟨w.heap.size, 0, none⟩ = some (.int .i64 N) := K1.cellv 0 rfl
  have d1 : w1.cell? ⟨w.heap.size, 1, none⟩ = some (.int .u32 pr) := K1.cellv 1 rfl
  have d2 : w1.cell? ⟨w.heap.size, 2, none⟩ = some (.int .i64 pw) := K1.cellv 2 rfl
  have d3 : w1.cell? ⟨w.heap.size, 3, none⟩ = some (.slice A l.length c) := K1.cellv 3 rfl
  have d4 : w1.cell? ⟨w.heap.size, 4, none⟩ = some (.int .u32 sp) := K1.cellv 4 rfl
  have d5 : w1.cell? ⟨w.heap.size, 5, none⟩ = some (.int .i64 wt) := K1.cellv 5 rfl
  have d6 : w1.cell? ⟨w.heap.size, 6, none⟩ = some (.int .u32 er) := K1.cellv 6 rfl
  have g0 : w1.cell? ⟨w.heap.size + 1, 0, none⟩ = some (.int .i64 inp) := K2.cellv 0 rfl
  have g1 : w1.cell? ⟨w.heap.size + 1, 1, none⟩ = some (.slice AP rs.length cp) := K2.cellv 1 rfl
  have g2 : w1.cell? ⟨w.heap.size + 1, 2, none⟩ = some (.slice AN nodes.length cn) := K2.cellv 2 rfl
  have g3 : w1.cell? ⟨w.heap.size + 1, 3, none⟩ = some (.slice AO outs.length co) := K2.cellv 3 rfl
  go_wp2_with fail
  refine (HBe w1 hB1).out.mono ?_
  rintro e w2 ⟨rfl, hb2⟩
  have hB2 := bl_then hB1 hb2 (Nat.le_refl _)
  have K3 := K1.keep hb2
  have K4 := K2.keep hb2
  clear K1 K2 d0 d1 d2 d3 d4 d5 d6 g0 g1 g2 g3
  have d0 : w2.cell? ⟨w.heap.size, 0, none⟩ = some (.int .i64 N) := K3.cellv 0 rfl
  have d1 : w2.cell? ⟨w.heap.size, 1, none⟩ = some (.int .u32 pr) := K3.cellv 1 rfl
  have d2 : w2.cell? ⟨w.heap.size, 2, none⟩ = some (.int .i64 pw) := K3.cellv 2 rfl
  have d3 : w2.cell? ⟨w.heap.size, 3, none⟩ = some (.slice A l.length c) := K3.cellv 3 rfl
  have d4 : w2.cell? ⟨w.heap.size, 4, none⟩ = some (.int .u32 sp) := K3.cellv 4 rfl
  have d5 : w2.cell? ⟨w.heap.size, 5, none⟩ = some (.int .i64 wt) := K3.cellv 5 rfl
  have d6 : w2.cell? ⟨w.heap.size, 6, none⟩ = some (.int .u32 er) := K3.cellv 6 rfl
  have g0 : w2.cell? ⟨w.heap.size + 1, 0, none⟩ = some (.int .i64 inp) := K4.cellv 0 rfl
  have g1 : w2.cell? ⟨w.heap.size + 1, 1, none⟩ = some (.slice AP rs.length cp) := K4.cellv 1 rfl
  have g2 : w2.cell? ⟨w.heap.size + 1, 2, none⟩ = some (.slice AN nodes.length cn) := K4.cellv 2 rfl
  have g3 : w2.cell? ⟨w.heap.size + 1, 3, none⟩ = some (.slice AO outs.length co) := K4.cellv 3 rfl
  go_wp2_with fail
  refine (HGr w2 hB2).out.mono ?_
  rintro e w3 ⟨rfl, hb3⟩
  have hB3 := bl_then hB2 hb3 (Nat.le_refl _)
  replace K3 := K3.keep hb3
  replace K4 := K4.keep hb3
  clear d0 d1 d2 d3 d4 d5 d6 g0 g1 g2 g3
  have d0 : w3.cell? ⟨w.heap.size, 0, none⟩ = some (.int .i64 N) := K3.cellv 0 rfl
  have d1 : w3.cell? ⟨w.heap.size, 1, none⟩ = some (.int .u32 pr) := K3.cellv 1 rfl
  have d2 : w3.cell? ⟨w.heap.size, 2, none⟩ = some (.int .i64 pw) := K3.cellv 2 rfl
  have d3 : w3.cell? ⟨w.heap.size, 3, none⟩ = some (.slice A l.length c) := K3.cellv 3 rfl
  have d4 : w3.cell? ⟨w.heap.size, 4, none⟩ = some (.int .u32 sp) := K3.cellv 4 rfl
  have d5 : w3.cell? ⟨w.heap.size, 5, none⟩ = some (.int .i64 wt) := K3.cellv 5 rfl
  have d6 : w3.cell? ⟨w.heap.size, 6, none⟩ = some (.int .u32 er) := K3.cellv 6 rfl
  have g0 : w3.cell? ⟨w.heap.size + 1, 0, none⟩ = some (.int .i64 inp) := K4.cellv 0 rfl
  have g1 : w3.cell? ⟨w.heap.size + 1, 1, none⟩ = some (.slice AP rs.length cp) := K4.cellv 1 rfl
  have g2 : w3.cell? ⟨w.heap.size + 1, 2, none⟩ = some (.slice AN nodes.length cn) := K4.cellv 2 rfl
  have g3 : w3.cell? ⟨w.heap.size + 1, 3, none⟩ = some (.slice AO outs.length co) := K4.cellv 3 rfl
  go_wp2_with fail
  refine (HDe w3 hB3).out.mono ?_
  rintro e w4 ⟨rfl, hb4⟩
  have hB4 := bl_then hB3 hb4 (Nat.le_refl _)
  go_wp2
  go_ret
  exact ⟨rfl, hB4⟩
end Go.Proofs.Ytidlfjaogjpokaa
