/- The walk of the law on a valid graph. -/
import Derived.Test.YtidlfjaogjpokaaPartA
import Derived.Test.YtidlfjaogjpokaaPartB
namespace Go.Proofs.Ytidlfjaogjpokaa
open Go.RowKit

theorem Nds.acell {w : World} {b o : Nat} {l : List Nd} (h : Nds w (some ⟨b, o, none⟩) l) {i : Nat} (hi : i < l.length) : w.cell? ⟨b, o + i * 4 + 1, none⟩ = some (.int .i64 l[i].2.1) := by
  obtain ⟨b', o', e, _, _, c1, _, _⟩ := h.ix hi
  simp only [Option.some.injEq, Addr.mk.injEq, and_true] at e
  obtain ⟨rfl, rfl⟩ := e
  exact c1
theorem Nds.form {w : World} {A : Option Addr} {l : List Nd} (h : Nds w A l) (hi : 0 < l.length) : ∃ b o, A = some ⟨b, o, none⟩ := by
  obtain ⟨b, o, e, _⟩ := h.ix hi
  exact ⟨b, o, e⟩
theorem head_at (L : List Int) (h : 0 < L.length) : L[0] = L.headD 0 := by
  cases L with
  | nil => simp at h
  | cons x L => rfl
/-- a row of histogram cells -/
def histA (n : Nat) (P : List Int) : Array Value := (ints .i64 (hist n P)).toArray
theorem histA_at (N : Nat) (P : List Int) (n : Nat) (h : n < N) : (histA N P)[n]? = some (.int .i64 ((P.count (n : Int) : Nat) : Int)) := by
  unfold histA ints
  rw [List.getElem?_toArray, List.getElem?_map, hist_at N P n h]; rfl
theorem histA_set (N : Nat) (P : List Int) (n : Nat) (h : n < N) : (histA N P).setIfInBounds n (.int .i64 (((P.count (n : Int) : Nat) : Int) + 1)) = histA N (P ++ [(n : Int)]) := by
  unfold histA ints
  rw [List.setIfInBounds_toArray, ← List.map_set, hist_step N P n h]
theorem histA_nil (n : Nat) : (madeCells (Value.int .i64 0).cells (n * 1)).toList.toArray = histA n [] := by
  have e : (madeCells (Value.int .i64 0).cells (n * 1)).toList = List.replicate n (.int .i64 0) := by
    rw [Nat.mul_one]; exact toList_madeCells_one _ _
  rw [e]
  unfold histA ints
  rw [hist_nil, List.map_replicate]
/-- the elements that the walk has met, among all -/
theorem count_pre (LL : List (List Int)) (i : Nat) (h : i < LL.length) (j : Nat) (x : Int) : ((LL.take i).flatten ++ LL[i].take j).count x ≤ LL.flatten.count x := by
  have e1 : LL.flatten = (LL.take i).flatten ++ (LL[i] ++ (LL.drop (i + 1)).flatten) := by
    conv => lhs; rw [← List.take_append_drop i LL, List.drop_eq_getElem_cons h]
    rw [List.flatten_append, List.flatten_cons]
  have e2 : LL[i].count x = (LL[i].take j).count x + (LL[i].drop j).count x := by
    rw [← List.count_append, List.take_append_drop]
  rw [e1, List.count_append, List.count_append, List.count_append, e2]
  omega
theorem flat_row (LL : List (List Int)) (i : Nat) (h : i < LL.length) : (LL.take (i + 1)).flatten = (LL.take i).flatten ++ LL[i] := by
  rw [List.take_succ_eq_append_getElem h, List.flatten_append]; simp
theorem take_one (L : List Int) (j : Nat) (h : j < L.length) (P : List Int) : P ++ L.take (j + 1) = (P ++ L.take j) ++ [L[j]] := by
  rw [List.take_succ_eq_append_getElem h, List.append_assoc]
set_option maxRecDepth 100000 in
set_option maxHeartbeats 4000000 in
theorem parts_ok (N pr pw sp wt er : Int) (A : Option Addr) (l : List Int) (c : Nat) (inp : Int) (AP : Option Addr) (rs : List RowT) (cp : Nat) (AN : Option Addr) (nodes : List Nd) (cn : Nat) (AO : Option Addr) (outs : List Int) (co : Nat)
    (w : World) (hl : Rd w A (ints .u32 l)) (hc : l.length ≤ c) (hb : ∀ q ∈ l, 0 ≤ q ∧ q < 4294967296)
    (p0 : 0 ≤ pr) (p1 : pr < 4294967296) (r0 : -9223372036854775808 ≤ pw) (r1 : pw ≤ 9223372036854775807) (s0 : 0 ≤ sp) (s1 : sp < 4294967296) (e0 : 0 ≤ er)
    (hP : Rws w AP rs) (hN : Nds w AN nodes) (hO : Rd w AO (ints .i64 outs)) (hcp : rs.length ≤ cp)
    (bK : ∀ x ∈ nodes, -9223372036854775808 ≤ x.1 ∧ x.1 ≤ 9223372036854775807)
    (hlc : l.length ≤ 100) (hbey : beyondB rs nodes.length outs.length 500 = false)
    (hE : gE M.primeP N pr pw l sp wt er inp (rs.map (·.2.1)) nodes outs = 0) :
    Calls Try.prog 3 #[.agg #[.int .i64 N, .int .u32 pr, .int .i64 pw, .slice A l.length c, .int .u32 sp, .int .i64 wt, .int .u32 er], .agg #[.int .i64 inp, .slice AP rs.length cp, .slice AN nodes.length cn, .slice AO outs.length co]] w fun e w' => e = .returned (.bool true) ∧ Below w.heap.size w w' := by
  have KP : Blk (w.alloc (.cells #[.int .i64 N, .int .u32 pr, .int .i64 pw, .slice A l.length c, .int .u32 sp, .int .i64 wt, .int .u32 er] 25)) w.heap.size 25 #[.int .i64 N, .int .u32 pr, .int .i64 pw, .slice A l.length c, .int .u32 sp, .int .i64 wt, .int .u32 er] := Blk.new _ _ _
  have KP1 := KP.alloc (.cells #[.int .i64 inp, .slice AP rs.length cp, .slice AN nodes.length cn, .slice AO outs.length co] 30)
  have KG : Blk ((w.alloc (.cells #[.int .i64 N, .int .u32 pr, .int .i64 pw, .slice A l.length c, .int .u32 sp, .int .i64 wt, .int .u32 er] 25)).alloc (.cells #[.int .i64 inp, .slice AP rs.length cp, .slice AN nodes.length cn, .slice AO outs.length co] 30)) (w.heap.size + 1) 30 #[.int .i64 inp, .slice AP rs.length cp, .slice AN nodes.length cn, .slice AO outs.length co] := by
    have := Blk.new (w.alloc (.cells #[.int .i64 N, .int .u32 pr, .int .i64 pw, .slice A l.length c, .int .u32 sp, .int .i64 wt, .int .u32 er] 25)) 30 #[.int .i64 inp, .slice AP rs.length cp, .slice AN nodes.length cn, .slice AO outs.length co]
    simpa using this
  have hB := ((Below.refl w.heap.size w).alloc (Nat.le_refl _) (.cells #[.int .i64 N, .int .u32 pr, .int .i64 pw, .slice A l.length c, .int .u32 sp, .int .i64 wt, .int .u32 er] 25)).alloc (by simp) (.cells #[.int .i64 inp, .slice AP rs.length cp, .slice AN nodes.length cn, .slice AO outs.length co] 30)
  have hbd := beyond_bounds hbey
  obtain ⟨bN, bP, bO, bR⟩ := hbd
  have hlen : l.length ≤ 100000 := by omega
  have q : decide ((100 : Int) < (l.length : Int)) = false := decide_eq_false (by omega)
  have hz := grE_zero (gE_zero hE).2
  have hn4 := hz.1
  have HPt := Lib.hid (parts_of nodes (refs_of _ _ _ _ _ hz.2.2.2.2.2.2.2.1))
  have HBe := fun w' (hb : Below w.heap.size w w') => Lib.hid (beyond_any 500 inp AP rs cp AN nodes.length cn AO outs.length co w' (hP.1.below hb) hcp)
  rw [hbey] at HBe
  have HGr := fun w' (hb' : Below w.heap.size w w') => Lib.hid (groups_ok N pr pw sp wt er A l c inp AP rs cp AN nodes cn AO outs co w' (hl.below hb') hc hb p0 p1 r0 r1 s0 s1 hlen (hP.below hb') (hN.below hb') (hO.below hb') bP bR bN bO bK hE)
  have HDe := fun w' (hb' : Below w.heap.size w w') => Lib.hid (rgdepths_ok N pr pw sp wt er A l c inp AP rs cp AN nodes cn AO outs co w' (hl.below hb') hc hb p0 p1 r0 r1 s0 s1 e0 hlen (hP.below hb') (hN.below hb') (hO.below hb') bP bR bN bO ((Pr.gE_eq N pr pw l sp wt er inp (rs.map (·.2.1)) nodes outs).symm.trans hE))
  have HN := Lib.hid hN
  clear hl hb hN hO bK hP bR hbey hE hz
  go_enter Try.func3, Try.ntmps3
  go_wp2_with fail
  refine (shown_any _).mono ?_
  rintro e w1 ⟨rfl, hb1⟩
  have hB1 := bl_then hB hb1 (Nat.le_refl _)
  have K1 := KP1.keep hb1
  have K2 := KG.keep hb1
  clear hB KP KP1 KG hb1
  have d0 : w1.cell? ⟨w.heap.size, 0, none⟩ = some (.int .i64 N) := K1.cellv 0 rfl
  have d1 : w1.cell? ⟨w.heap.size, 1, none⟩ = some (.int .u32 pr) := K1.cellv 1 rfl
  have d2 : w1.cell? ⟨w.heap.size, 2, none⟩ = some (.int .i64 pw) := K1.cellv 2 rfl
  have d3 : w1.cell? ⟨w.heap.size, 3, none⟩ = some (.slice A l.length c) := K1.cellv 3 rfl
  have d4 : w1.cell? ⟨w.heap.size, 4, none⟩ = some (.int .u32 sp) := K1.cellv 4 rfl
  have d5 : w1.cell? ⟨w.heap.size, 5, none⟩ = some (.int .i64 wt) := K1.cellv 5 rfl
  have d6 : w1.cell? ⟨w.heap.size, 6, none⟩ = some (.int .u32 er) := K1.cellv 6 rfl
  have g0 : w1.cell? ⟨w.heap.size + 1, 0, none⟩ = some (.int .i64 inp) := K2.cellv 0 rfl
  have g1 : w1.cell? ⟨w.heap.size + 1, 1, none⟩ = some (.slice AP rs.length cp) := K2.cellv 1 rfl
  have g2 : w1.cell? ⟨w.heap.size + 1, 2, none⟩ = some (.slice AN nodes.length cn) := K2.cellv 2 rfl
  have g3 : w1.cell? ⟨w.heap.size + 1, 3, none⟩ = some (.slice AO outs.length co) := K2.cellv 3 rfl
  go_wp2_with fail
  refine (HBe w1 hB1).out.mono ?_
  rintro e w2 ⟨rfl, hb2⟩
  have hB2 := bl_then hB1 hb2 (Nat.le_refl _)
  have K3 := K1.keep hb2
  have K4 := K2.keep hb2
  clear K1 K2 d0 d1 d2 d3 d4 d5 d6 g0 g1 g2 g3 hB1 hb2
  have d0 : w2.cell? ⟨w.heap.size, 0, none⟩ = some (.int .i64 N) := K3.cellv 0 rfl
  have d1 : w2.cell? ⟨w.heap.size, 1, none⟩ = some (.int .u32 pr) := K3.cellv 1 rfl
  have d2 : w2.cell? ⟨w.heap.size, 2, none⟩ = some (.int .i64 pw) := K3.cellv 2 rfl
  have d3 : w2.cell? ⟨w.heap.size, 3, none⟩ = some (.slice A l.length c) := K3.cellv 3 rfl
  have d4 : w2.cell? ⟨w.heap.size, 4, none⟩ = some (.int .u32 sp) := K3.cellv 4 rfl
  have d5 : w2.cell? ⟨w.heap.size, 5, none⟩ = some (.int .i64 wt) := K3.cellv 5 rfl
  have d6 : w2.cell? ⟨w.heap.size, 6, none⟩ = some (.int .u32 er) := K3.cellv 6 rfl
  have g0 : w2.cell? ⟨w.heap.size + 1, 0, none⟩ = some (.int .i64 inp) := K4.cellv 0 rfl
  have g1 : w2.cell? ⟨w.heap.size + 1, 1, none⟩ = some (.slice AP rs.length cp) := K4.cellv 1 rfl
  have g2 : w2.cell? ⟨w.heap.size + 1, 2, none⟩ = some (.slice AN nodes.length cn) := K4.cellv 2 rfl
  have g3 : w2.cell? ⟨w.heap.size + 1, 3, none⟩ = some (.slice AO outs.length co) := K4.cellv 3 rfl
  go_wp2_with fail
  refine (HGr w2 hB2).out.mono ?_
  rintro e w3 ⟨AR, cr, rows, rfl, hrw, hRw, hcr, hb3⟩
  have hB3 := bl_then hB2 hb3 (Nat.le_refl _)
  replace K3 := K3.keep hb3
  replace K4 := K4.keep hb3
  rw [← hrw] at HPt
  have hbnd := groups_rows hrw hn4
  clear d0 d1 d2 d3 d4 d5 d6 g0 g1 g2 g3 hB2 hb3 hrw
  have d0 : w3.cell? ⟨w.heap.size, 0, none⟩ = some (.int .i64 N) := K3.cellv 0 rfl
  have d1 : w3.cell? ⟨w.heap.size, 1, none⟩ = some (.int .u32 pr) := K3.cellv 1 rfl
  have d2 : w3.cell? ⟨w.heap.size, 2, none⟩ = some (.int .i64 pw) := K3.cellv 2 rfl
  have d3 : w3.cell? ⟨w.heap.size, 3, none⟩ = some (.slice A l.length c) := K3.cellv 3 rfl
  have d4 : w3.cell? ⟨w.heap.size, 4, none⟩ = some (.int .u32 sp) := K3.cellv 4 rfl
  have d5 : w3.cell? ⟨w.heap.size, 5, none⟩ = some (.int .i64 wt) := K3.cellv 5 rfl
  have d6 : w3.cell? ⟨w.heap.size, 6, none⟩ = some (.int .u32 er) := K3.cellv 6 rfl
  have g0 : w3.cell? ⟨w.heap.size + 1, 0, none⟩ = some (.int .i64 inp) := K4.cellv 0 rfl
  have g1 : w3.cell? ⟨w.heap.size + 1, 1, none⟩ = some (.slice AP rs.length cp) := K4.cellv 1 rfl
  have g2 : w3.cell? ⟨w.heap.size + 1, 2, none⟩ = some (.slice AN nodes.length cn) := K4.cellv 2 rfl
  have g3 : w3.cell? ⟨w.heap.size + 1, 3, none⟩ = some (.slice AO outs.length co) := K4.cellv 3 rfl
  go_wp2_with fail
  refine (HDe w3 hB3).out.mono ?_
  rintro e w4 ⟨AD, cd, rfl, hD, hcd, hb4⟩
  have hB4 := bl_then hB3 hb4 (Nat.le_refl _)
  replace K3 := K3.keep hb4
  replace K4 := K4.keep hb4
  have HR := Lib.hid (hRw.below hb4)
  have HD := Lib.hid hD
  have HN4 := Lib.hid (HN.out.below hB4)
  obtain ⟨q1, q2⟩ := hbnd
  have Q2 := Lib.hid q2
  clear d0 d1 d2 d3 d4 d5 d6 g0 g1 g2 g3 hB3 hb4 hRw hD q2 HN HBe HGr HDe
  have g2 : w4.cell? ⟨w.heap.size + 1, 2, none⟩ = some (.slice AN nodes.length cn) := K4.cellv 2 rfl
  obtain ⟨i0, hi0, hz0, hz1, hz2'⟩ := info_parts info_i64
  go_wp2_with (at_make; refine wpList_make_full _ rfl (.tmp 56) (.tmp 56) 28 rfl w4.heap.size 3 i0 (.int .i64 0) 1 Try.underlying28 hi0 hz0 hz1 .i64 .i64 _ _ nodes.length rfl rfl rfl rfl (by rw [hz2']; omega) (by unfold maxLen; omega) (Nat.le_refl _) ?_; intro w5 hown5 hg5)
  have C5 := own_blk hown5
  rw [histA_nil] at C5
  have hb5 : Below w4.heap.size w4 w5 := below_none hg5
  clear hown5 hg5 g2 hz0 hz1 hz2' hi0
  go_loopw [10] (fun x wr => ∃ i : Nat, i ≤ rows.length ∧ x = .int .i64 i ∧ Below w4.heap.size w4 wr ∧ Blk wr w4.heap.size 3 (histA nodes.length ((rows.map (·.2.1)).take i).flatten)) (fun x _ => rows.length - (intOf x).toNat)
  case atStart => exact ⟨0, by omega, rfl, hb5, C5⟩
  case round =>
    clear hb5 C5
    obtain ⟨i, hi, rfl, hBr, hC⟩ := hrel
    by_cases hlt : i < rows.length
    · have hltL : i < (rows.map (·.2.1)).length := by simpa using hlt
      have h1 := HPt.out.one i hltL
      rw [List.getElem_map] at h1
      obtain ⟨hl0, hl1, key, hkey⟩ := h1
      have HKey := Lib.hid hkey
      obtain ⟨n0, hn0, en0, ea0, hk0, ed0⟩ := hkey 0 hl0
      clear hkey
      have hnl : 0 < nodes.length := by omega
      obtain ⟨bn, on, rfl⟩ := HN4.out.form hnl
      obtain ⟨bD, oD, rfl, _⟩ := HD.out.intx (i := 0) (by rw [depsOf_len]; exact hnl)
      obtain ⟨b, o, rfl, e1⟩ := (HR.out.below hBr).ix hlt
      have p1 : decide (i < rows.length) = true := decide_eq_true hlt
      have hrl := Q2.out _ (List.getElem_mem hlt)
      go_wp2
      go_loopw [11] (fun y ws => ∃ j : Nat, j ≤ rows[i].2.1.length ∧ y = .int .i64 j ∧ Below w4.heap.size w4 ws ∧ Blk ws w4.heap.size 3 (histA nodes.length (((rows.map (·.2.1)).take i).flatten ++ rows[i].2.1.take j))) (fun y _ => rows[i].2.1.length - (intOf y).toNat)
      case atStart => exact ⟨0, by omega, rfl, hBr, by simpa using hC⟩
      case round =>
        clear hBr hC e1 en0 ea0 ed0
        obtain ⟨j, hj, rfl, hBs, hC⟩ := hrel
        have e1 : wr.cell? ⟨b, o + i, none⟩ = some (.slice rows[i].1 rows[i].2.1.length rows[i].2.2) := by
          obtain ⟨b', o', e, e1⟩ := (HR.out.below hBs).ix hlt
          simp only [Option.some.injEq, Addr.mk.injEq, and_true] at e
          obtain ⟨rfl, rfl⟩ := e
          exact e1
        by_cases hjl : j < rows[i].2.1.length
        · obtain ⟨n, hn, en, ea, hk, ed⟩ := HKey.out j hjl
          obtain ⟨n0, hn0, en0, ea0, _, _⟩ := HKey.out 0 hl0
          obtain ⟨b1, o1, hA, e2⟩ := ((HR.out.below hBs).row hlt).intx hjl
          obtain ⟨b1', o1', hA', e3⟩ := ((HR.out.below hBs).row hlt).intx hl0
          rw [hA] at hA'
          simp only [Option.some.injEq, Addr.mk.injEq, and_true] at hA'
          obtain ⟨rfl, rfl⟩ := hA'
          rw [en] at e2
          rw [en0, Nat.add_zero] at e3
          rw [hA] at e1
          have c1 := (HN4.out.below hBs).acell hn
          have c2 := (HN4.out.below hBs).acell hn0
          rw [ea] at c1
          rw [ea0] at c2
          obtain ⟨b2, o2, hA2, f1⟩ := (HD.out.below hBs).intx (i := n) (by rw [depsOf_len]; exact hn)
          obtain ⟨b3, o3, hA3, f2⟩ := (HD.out.below hBs).intx (i := key) (by rw [depsOf_len]; exact hk)
          simp only [Option.some.injEq, Addr.mk.injEq, and_true] at hA2 hA3
          obtain ⟨rfl, rfl⟩ := hA2
          obtain ⟨rfl, rfl⟩ := hA3
          have hdv : (depsOf nodes)[n]'(by rw [depsOf_len]; exact hn) = (depsOf nodes)[key]'(by rw [depsOf_len]; exact hk) := by
            rw [List.getElem?_eq_getElem (by rw [depsOf_len]; exact hn), List.getElem?_eq_getElem (by rw [depsOf_len]; exact hk)] at ed
            exact Option.some.inj ed
          rw [hdv] at f1
          have g2 : wr.cell? ⟨w.heap.size + 1, 2, none⟩ = some (.slice (some ⟨bn, on, none⟩) nodes.length cn) := (K4.keep hBs).cellv 2 rfl
          have h9 := hC.cellv n (histA_at nodes.length _ n hn)
          have h10 := hC.frozen n
          have hcb : (((rows.map (·.2.1)).take i).flatten ++ rows[i].2.1.take j).count (n : Int) ≤ 1 := by
            have z1 := count_pre (rows.map (·.2.1)) i hltL j (n : Int)
            have z2 := HPt.out.cnt n hn
            rw [List.getElem_map] at z1
            rw [z2] at z1
            split at z1 <;> omega
          have hNext : Hid (((wr.drewN 0).setCell ⟨w4.heap.size, n, none⟩ (.int .i64 0) = (wr.drewN 0).setCell ⟨w4.heap.size, n, none⟩ (.int .i64 0)) ∧ ∀ W, Blk W w4.heap.size 3 (histA nodes.length (((rows.map (·.2.1)).take i).flatten ++ rows[i].2.1.take j)) → Blk (W.setCell ⟨w4.heap.size, n, none⟩ (.int .i64 (((((rows.map (·.2.1)).take i).flatten ++ rows[i].2.1.take j).count (n : Int) : Nat) + 1))) w4.heap.size 3 (histA nodes.length (((rows.map (·.2.1)).take i).flatten ++ rows[i].2.1.take (j + 1)))) := Lib.hid ⟨rfl, fun W hW => by
            have z := hW.set_ n (.int .i64 (((((rows.map (·.2.1)).take i).flatten ++ rows[i].2.1.take j).count (n : Int) : Nat) + 1))
            rw [histA_set nodes.length _ n hn] at z
            rw [take_one _ j hjl, en]
            exact z⟩
          have p3 : decide ((n : Int) < 0) = false := decide_eq_false (by omega)
          have p4 : decide (nodes.length ≤ n) = false := decide_eq_false (by omega)
          have p5 : decide ((nodes.length : Int) ≤ (n : Int)) = false := decide_eq_false (by omega)
          have p6 : decide (j < rows[i].2.1.length) = true := decide_eq_true hjl
          clear en en0 ea ea0 ed hdv hA
          generalize (depsOf nodes)[key]'(by rw [depsOf_len]; exact hk) = dv at *
          generalize hcnt : (((rows.map (·.2.1)).take i).flatten ++ rows[i].2.1.take j).count (n : Int) = cnt at *
          clear hcnt
          go_wp2
          go_quiet (fail)
          go_wp2
          exact ⟨⟨j + 1, by omega, by go_num, bl_sc (bl_drewN hBs _) (Nat.le_refl _) _, hNext.out.2 _ (hC.drewN _)⟩, by simp [intOf]; omega⟩
        · have p6 : decide (j < rows[i].2.1.length) = false := decide_eq_false hjl
          have hfull : rows[i].2.1.take j = rows[i].2.1 := List.take_of_length_le (by omega)
          have hC2 := hC
          rw [hfull] at hC2
          have z := flat_row (rows.map (·.2.1)) i hltL
          rw [List.getElem_map] at z
          rw [← z] at hC2
          clear hfull hC z
          go_wp2
          exact ⟨⟨i + 1, by omega, by go_num, hBs, hC2⟩, by simp [intOf]; omega⟩
    · have p1 : decide (i < rows.length) = false := decide_eq_false hlt
      have hfull : (rows.map (·.2.1)).take i = rows.map (·.2.1) := List.take_of_length_le (by simp; omega)
      rw [hfull] at hC
      clear hfull
      go_wp2
      go_loopw [13] (fun y ws => ∃ n : Nat, n ≤ nodes.length ∧ y = .int .i64 n ∧ Below w4.heap.size w4 ws ∧ Blk ws w4.heap.size 3 (histA nodes.length (rows.map (·.2.1)).flatten)) (fun y _ => nodes.length - (intOf y).toNat)
      case atStart => exact ⟨0, by omega, rfl, hBr, hC⟩
      case round =>
        clear hBr hC
        obtain ⟨n, hn, rfl, hBs, hC⟩ := hrel
        by_cases hnlt : n < nodes.length
        · obtain ⟨bn, on, rfl, hbl, c0, c1, c2, c3⟩ := (HN4.out.below hBs).ix hnlt
          have g2 : wr.cell? ⟨w.heap.size + 1, 2, none⟩ = some (.slice (some ⟨bn, on, none⟩) nodes.length cn) := (K4.keep hBs).cellv 2 rfl
          have h9 := hC.cellv n (histA_at nodes.length _ n hnlt)
          rw [HPt.out.cnt n hnlt] at h9
          have hgw := hC.lt
          have p1 : decide (n < nodes.length) = true := decide_eq_true hnlt
          have hnx : ∀ o, Below w4.heap.size w4 (wr.alloc o) ∧ Blk (wr.alloc o) w4.heap.size 3 (histA nodes.length (rows.map (·.2.1)).flatten) := fun o => ⟨hBs.alloc hBs.size o, hC.alloc o⟩
          have HNx := Lib.hid hnx
          clear hnx hC
          unfold turns at h9
          generalize nodes[n] = x at *
          obtain ⟨op, x1, x2, k⟩ := x
          dsimp only at c0 c1 c2 c3 h9
          cases b10 : (op == 10) with
          | true =>
            rw [b10] at h9
            simp only [Bool.true_or, if_true] at h9
            go_wp2
            exact ⟨⟨n + 1, by omega, by go_num, (HNx.out _).1, (HNx.out _).2⟩, by simp [intOf]; omega⟩
          | false =>
            rw [b10] at h9
            cases b9 : (op == 9) with
            | false =>
              rw [b9] at h9
              simp only [Bool.false_or, Bool.false_and, Bool.false_eq_true, if_false] at h9
              go_wp2
              exact ⟨⟨n + 1, by omega, by go_num, (HNx.out _).1, (HNx.out _).2⟩, by simp [intOf]; omega⟩
            | true =>
              rw [b9] at h9
              cases bk : (k != 0) with
              | false =>
                rw [bk] at h9
                simp only [Bool.false_or, Bool.true_and, Bool.false_eq_true, if_false] at h9
                go_wp2
                exact ⟨⟨n + 1, by omega, by go_num, (HNx.out _).1, (HNx.out _).2⟩, by simp [intOf]; omega⟩
              | true =>
                rw [bk] at h9
                simp only [Bool.false_or, Bool.true_and, if_true] at h9
                go_wp2
                exact ⟨⟨n + 1, by omega, by go_num, (HNx.out _).1, (HNx.out _).2⟩, by simp [intOf]; omega⟩
        · have p1 : decide (n < nodes.length) = false := decide_eq_false hnlt
          clear hC
          go_wp2
          go_loopw [16] (fun y ws => ∃ i : Nat, i ≤ rows.length ∧ y = .int .i64 i ∧ Below w4.heap.size w4 ws) (fun y _ => rows.length - (intOf y).toNat)
          case atStart => exact ⟨0, by omega, rfl, hBs⟩
          case round =>
            clear hBs
            obtain ⟨i, hi, rfl, hBr⟩ := hrel
            by_cases hlt : i < rows.length
            · have p1 : decide (i < rows.length) = true := decide_eq_true hlt
              clear hnlt hn
              go_wp2
              go_loopw [17] (fun y ws => ∃ j : Nat, j ≤ i ∧ y = .int .i64 j ∧ Below w4.heap.size w4 ws) (fun y _ => i - (intOf y).toNat)
              case atStart => exact ⟨0, by omega, rfl, hBr⟩
              case round =>
                clear hBr
                obtain ⟨j, hj, rfl, hBs⟩ := hrel
                by_cases hjl : j < i
                · have p6 : decide (j < i) = true := decide_eq_true hjl
                  have hjr : j < rows.length := by omega
                  have hiL : i < (rows.map (·.2.1)).length := by simpa using hlt
                  have hjL : j < (rows.map (·.2.1)).length := by simpa using hjr
                  obtain ⟨n, m, hn, hm, en, em, hne⟩ := HPt.out.two i hiL j hjl
                  have li := (HPt.out.one i hiL).1
                  have lj := (HPt.out.one j hjL).1
                  rw [List.getElem_map] at en em li lj
                  obtain ⟨bn, on, rfl⟩ := HN4.out.form (show 0 < nodes.length by omega)
                  obtain ⟨b, o, rfl, e1⟩ := (HR.out.below hBs).ix hlt
                  obtain ⟨b', o', hA0, e1'⟩ := (HR.out.below hBs).ix hjr
                  simp only [Option.some.injEq, Addr.mk.injEq, and_true] at hA0
                  obtain ⟨rfl, rfl⟩ := hA0
                  obtain ⟨b1, o1, hA, e3⟩ := ((HR.out.below hBs).row hlt).intx li
                  obtain ⟨b2, o2, hA2, e4⟩ := ((HR.out.below hBs).row hjr).intx lj
                  rw [head_at _ li, en, Nat.add_zero] at e3
                  rw [head_at _ lj, em, Nat.add_zero] at e4
                  rw [hA] at e1
                  rw [hA2] at e1'
                  have c1 := (HN4.out.below hBs).acell hn
                  have c2 := (HN4.out.below hBs).acell hm
                  have g2 : wr.cell? ⟨w.heap.size + 1, 2, none⟩ = some (.slice (some ⟨bn, on, none⟩) nodes.length cn) := (K4.keep hBs).cellv 2 rfl
                  have hq : (nodes[n].2.1 == nodes[m].2.1) = false := beq_eq_false_iff_ne.2 hne
                  clear hne en em hA hA2
                  generalize nodes[n].2.1 = xa at *
                  generalize nodes[m].2.1 = xb at *
                  go_wp2
                  go_quiet (fail)
                  go_wp2
                  exact ⟨⟨j + 1, by omega, by go_num, bl_drewN hBs _⟩, by simp [intOf]; omega⟩
                · have p6 : decide (j < i) = false := decide_eq_false hjl
                  go_wp2
                  exact ⟨⟨i + 1, by omega, by go_num, hBs⟩, by simp [intOf]; omega⟩
            · have p1 : decide (i < rows.length) = false := decide_eq_false hlt
              go_wp2
              go_ret
              exact ⟨rfl, bl_then hB4 hBr (Nat.le_refl _)⟩
end Go.Proofs.Ytidlfjaogjpokaa
