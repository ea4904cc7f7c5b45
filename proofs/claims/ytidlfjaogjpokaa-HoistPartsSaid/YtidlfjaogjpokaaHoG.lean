/- The program's Groups: what it returns. -/
import Derived.Test.YtidlfjaogjpokaaHoF
namespace Go.Proofs.Ytidlfjaogjpokaa
open Go.RowKit Go.Maps Go.ChangeMaps

/-- the first elements rise -/
def Rising (gs : List (Int × List Int)) (i : Int) : Prop := gs.Pairwise (fun a b => a.2.headD 0 < b.2.headD 0) ∧ ∀ g ∈ gs, g.2 ≠ [] ∧ g.2.headD 0 < i
theorem addG_heads (gs : List (Int × List Int)) (a i : Int) (hne : ∀ g ∈ gs, g.2 ≠ []) : (addG gs a i).map (fun g => g.2.headD 0) = gs.map (fun g => g.2.headD 0) ∨ (addG gs a i).map (fun g => g.2.headD 0) = gs.map (fun g => g.2.headD 0) ++ [i] := by
  induction gs with
  | nil => right; rfl
  | cons g gs ih =>
    obtain ⟨k, l⟩ := g
    rw [addG]
    split
    · left
      have : l ≠ [] := hne (k, l) (by simp)
      cases l with
      | nil => exact absurd rfl this
      | cons x l => rfl
    · rcases ih fun g hg => hne g (by simp [hg]) with h | h
      · left; simp only [List.map_cons, h]
      · right; simp only [List.map_cons, h, List.cons_append]
theorem addG_ne (gs : List (Int × List Int)) (a i : Int) (hne : ∀ g ∈ gs, g.2 ≠ []) : ∀ g ∈ addG gs a i, g.2 ≠ [] := by
  induction gs with
  | nil => intro g hg; simp [addG] at hg; subst hg; simp
  | cons g0 gs ih =>
    obtain ⟨k, l⟩ := g0
    intro g hg
    rw [addG] at hg
    split at hg
    · rcases List.mem_cons.1 hg with rfl | hg
      · simp
      · exact hne g (by simp [hg])
    · rcases List.mem_cons.1 hg with rfl | hg
      · exact hne (k, l) (by simp)
      · exact ih (fun g hg => hne g (by simp [hg])) g hg
theorem rising_add {gs : List (Int × List Int)} {i : Int} (h : Rising gs i) (a : Int) : Rising (addG gs a i) (i + 1) := by
  have hne := addG_ne gs a i fun g hg => (h.2 g hg).1
  have hp : (gs.map fun g => g.2.headD 0).Pairwise (· < ·) := by rw [List.pairwise_map]; exact h.1
  have hl : ∀ x ∈ gs.map fun g => g.2.headD 0, x < i := fun x hx => by
    obtain ⟨g, hg, rfl⟩ := List.mem_map.1 hx; exact (h.2 g hg).2
  have key : ((addG gs a i).map fun g => g.2.headD 0).Pairwise (· < ·) ∧ ∀ x ∈ (addG gs a i).map fun g => g.2.headD 0, x < i + 1 := by
    rcases addG_heads gs a i fun g hg => (h.2 g hg).1 with e | e
    · rw [e]; exact ⟨hp, fun x hx => by have := hl x hx; omega⟩
    · rw [e]
      refine ⟨List.pairwise_append.2 ⟨hp, by simp, fun x hx y hy => ?_⟩, fun x hx => ?_⟩
      · rw [List.mem_singleton.1 hy]; exact hl x hx
      · rcases List.mem_append.1 hx with h1 | h1
        · have := hl x h1; omega
        · rw [List.mem_singleton.1 h1]; omega
  refine ⟨by have := key.1; rw [List.pairwise_map] at this; exact this, fun g hg => ⟨hne g hg, key.2 _ (List.mem_map.2 ⟨g, hg, rfl⟩)⟩⟩
theorem rising_go (l : List Nd) : ∀ (gs : List (Int × List Int)) (i : Nat), Rising gs i → Rising (grpGo gs i l) (i + l.length) := by
  induction l with
  | nil => intro gs i h; simpa [grpGo] using h
  | cons x l ih =>
    intro gs i h
    rw [grpGo]
    have e : (i : Int) + ((x :: l).length : Int) = ((i + 1 : Nat) : Int) + l.length := by simp; omega
    rw [e]
    apply ih
    split
    · have := rising_add h x.2.1
      simpa using this
    · exact ⟨h.1, fun g hg => ⟨(h.2 g hg).1, by have := (h.2 g hg).2; omega⟩⟩
theorem rising_of (l : List Nd) : Rising (grpOf l) l.length := by
  have := rising_go l [] 0 ⟨List.Pairwise.nil, by simp⟩
  simpa [grpOf] using this

/-- the rows of a map of groups -/
def rowOf (v : Value) (l : List Int) : RowT := match v with
  | .slice A _ c => (A, l, c)
  | _ => (none, l, 0)
def rowsOf (es : List MapEntry) (gs : List (Int × List Int)) : List RowT := List.zipWith (fun e g => rowOf e.val g.2) es gs
theorem GrpM.rows {w : World} {base b : Nat} {es : List MapEntry} {gs : List (Int × List Int)} (h : GrpM w base b es gs) :
    (rowsOf es gs).map rowV = es.map (·.val) ∧ (rowsOf es gs).map (·.2.1) = gs.map (·.2) ∧
      ∀ r ∈ rowsOf es gs, Rd w r.1 (ints .i64 r.2.1) ∧ ∃ g z, r.1 = some ⟨g, 0, none⟩ ∧ base ≤ g ∧ g < w.heap.size ∧ 0 < r.2.1.length ∧ z = r.2.1.headD 0 ∧ w.cell? ⟨g, 0, none⟩ = some (.int .i64 z) := by
  have hlen : (rowsOf es gs).length = es.length := by simp [rowsOf, h.len]
  have hform : ∀ j (hj : j < es.length) (hj' : j < gs.length), ∃ g cap, es[j].val = .slice (some ⟨g, 0, none⟩) gs[j].2.length cap ∧ base ≤ g ∧ g < w.heap.size := fun j hj hj' => by
    obtain ⟨e1, e2, e3, e4⟩ := h.ent j hj hj'
    obtain ⟨g, cap, e5, _, h6⟩ := e3.form e4
    exact ⟨g, cap, e5, (e3.lt g (by rw [e5]; rfl)).1, h6⟩
  refine ⟨?_, ?_, fun r hr => ?_⟩
  · apply List.ext_getElem
    · simp [hlen]
    · intro j h1 h2
      have hj : j < es.length := by simpa using h2
      have hj' : j < gs.length := by rw [← h.len]; exact hj
      obtain ⟨g, cap, e5, _, _⟩ := hform j hj hj'
      simp [rowsOf, rowOf, e5, rowV]
  · apply List.ext_getElem
    · simp [hlen, h.len]
    · intro j h1 h2
      have hj' : j < gs.length := by simpa using h2
      have hj : j < es.length := by rw [h.len]; exact hj'
      obtain ⟨g, cap, e5, _, _⟩ := hform j hj hj'
      simp [rowsOf, rowOf, e5]
  · obtain ⟨j, hj, rfl⟩ := List.getElem_of_mem hr
    have hj1 : j < es.length := by rw [← hlen]; exact hj
    have hj' : j < gs.length := by rw [← h.len]; exact hj1
    obtain ⟨e1, e2, e3, e4⟩ := h.ent j hj1 hj'
    obtain ⟨g, cap, e5, h5, h6⟩ := hform j hj1 hj'
    have er : (rowsOf es gs)[j] = (some ⟨g, 0, none⟩, gs[j].2, cap) := by simp [rowsOf, rowOf, e5]
    rw [er]
    rw [e5] at e3
    refine ⟨Rd.of_own e3, g, _, rfl, h5, h6, e4, rfl, ?_⟩
    have := ints_cell e3 rfl (m := 0) e4
    rw [this]
    have h7 : (gs[j].2)[0]?.getD 0 = (gs[j].2).headD 0 := by
      cases gs[j].2 <;> rfl
    rw [h7]
def slOf (r : RowT) : SlV := (r.1, r.2.1.length, r.2.2)
theorem slV_of (r : RowT) : slV (slOf r) = rowV r := rfl
def unSl : Value → SlV
  | .slice A n c => (A, n, c)
  | _ => (none, 0, 0)
theorem perm_sl {xs ys : List SlV} (h : (xs.map slV).Perm (ys.map slV)) : xs.Perm ys := by
  have := h.map unSl
  rw [List.map_map, List.map_map] at this
  have e : (unSl ∘ slV) = id := by funext x; rfl
  rw [e, List.map_id, List.map_id] at this
  exact this

/-- what Groups returns where the graph is valid -/
def GroupsPost (w : World) (nodes : List Nd) (e : Ending) (w' : World) : Prop :=
  ∃ A c, ∃ rows : List RowT, e = .returned (.tuple #[.slice A rows.length c, .int .i64 0]) ∧ rows.map (·.2.1) = (grpOf nodes).map (·.2) ∧ Rws w' A rows ∧ rows.length ≤ c ∧ Below w.heap.size w w'
set_option maxRecDepth 100000 in
set_option maxHeartbeats 4000000 in
theorem groups_ok (N pr pw sp wt er : Int) (A : Option Addr) (l : List Int) (c : Nat) (inp : Int) (AP : Option Addr) (rs : List RowT) (cp : Nat) (AN : Option Addr) (nodes : List Nd) (cn : Nat) (AO : Option Addr) (outs : List Int) (co : Nat)
    (w : World) (hl : Rd w A (ints .u32 l)) (hc : l.length ≤ c) (hb : ∀ q ∈ l, 0 ≤ q ∧ q < 4294967296)
    (p0 : 0 ≤ pr) (p1 : pr < 4294967296) (r0 : -9223372036854775808 ≤ pw) (r1 : pw ≤ 9223372036854775807) (s0 : 0 ≤ sp) (s1 : sp < 4294967296) (hlen : l.length ≤ 100000)
    (hP : Rws w AP rs) (hN : Nds w AN nodes) (hO : Rd w AO (ints .i64 outs)) (bP : rs.length ≤ 100000) (bR : ∀ r ∈ rs, r.2.1.length ≤ 100000) (bN : nodes.length ≤ 100000) (bO : outs.length ≤ 100000)
    (bK : ∀ x ∈ nodes, -9223372036854775808 ≤ x.1 ∧ x.1 ≤ 9223372036854775807)
    (hE : gE M.primeP N pr pw l sp wt er inp (rs.map (·.2.1)) nodes outs = 0) :
    Calls Try.prog 6 #[.agg #[.int .i64 N, .int .u32 pr, .int .i64 pw, .slice A l.length c, .int .u32 sp, .int .i64 wt, .int .u32 er], .agg #[.int .i64 inp, .slice AP rs.length cp, .slice AN nodes.length cn, .slice AO outs.length co]] w (GroupsPost w nodes) := by
  have H1 := Lib.hid (pgcheck_any N pr pw sp wt er A l c inp AP rs cp AN nodes cn AO outs co ((w.alloc (.cells #[.int .i64 N, .int .u32 pr, .int .i64 pw, .slice A l.length c, .int .u32 sp, .int .i64 wt, .int .u32 er] 25)).alloc (.cells #[.int .i64 inp, .slice AP rs.length cp, .slice AN nodes.length cn, .slice AO outs.length co] 30)) ((hl.alloc _).alloc _) hc hb p0 p1 r0 r1 s0 s1 hlen ((hP.alloc _).alloc _) ((hN.alloc _).alloc _) ((hO.alloc _).alloc _) bP bR bN bO bK)
  have hB := ((Below.refl w.heap.size w).alloc (Nat.le_refl _) (.cells #[.int .i64 N, .int .u32 pr, .int .i64 pw, .slice A l.length c, .int .u32 sp, .int .i64 wt, .int .u32 er] 25)).alloc (by simp) (.cells #[.int .i64 inp, .slice AP rs.length cp, .slice AN nodes.length cn, .slice AO outs.length co] 30)
  rw [hE] at H1
  have hz := grE_zero (gE_zero hE).2
  have hRef := Lib.hid (refs_of _ _ _ _ _ hz.2.2.2.2.2.2.2.1)
  have hn4 := hz.1
  have HNd := Lib.hid hN
  have hmm := @run_makeMap Try.prog
  have KG : Blk ((w.alloc (.cells #[.int .i64 N, .int .u32 pr, .int .i64 pw, .slice A l.length c, .int .u32 sp, .int .i64 wt, .int .u32 er] 25)).alloc (.cells #[.int .i64 inp, .slice AP rs.length cp, .slice AN nodes.length cn, .slice AO outs.length co] 30)) (w.heap.size + 1) 30 #[.int .i64 inp, .slice AP rs.length cp, .slice AN nodes.length cn, .slice AO outs.length co] := by
    have := Blk.new (w.alloc (.cells #[.int .i64 N, .int .u32 pr, .int .i64 pw, .slice A l.length c, .int .u32 sp, .int .i64 wt, .int .u32 er] 25)) 30 #[.int .i64 inp, .slice AP rs.length cp, .slice AN nodes.length cn, .slice AO outs.length co]
    simpa using this
  clear hl hb hP hN hO bR bK hE hz
  go_enter Try.func6, Try.ntmps6
  go_wp2_with fail
  refine H1.out.mono ?_
  rintro e w1 ⟨rfl, hb⟩
  have hB1 := bl_then hB hb (by simp)
  have K1 := KG.keep hb
  have hz1 : w.heap.size + 2 ≤ w1.heap.size := by have := hb.size; simp at this; omega
  have K2 := K1.alloc (.map #[] 0)
  have M0 := GrpM.new w1
  have hB2 := hB1.alloc hB1.size (.map #[] 0)
  have g2 : (w1.alloc (.map #[] 0)).cell? ⟨w.heap.size + 1, 2, none⟩ = some (.slice AN nodes.length cn) := K2.cellv 2 rfl
  clear hB hb KG H1 hB1 K1
  go_wp2
  obtain ⟨bm, hbm⟩ : ∃ bm, bm = w1.heap.size := ⟨_, rfl⟩
  simp only [← hbm] at M0 ⊢
  have HBM := Lib.hid hbm
  have hbm2 : w.heap.size + 2 ≤ bm := by omega
  clear hbm hz1 g2
  go_loopw [20] (fun x wr => ∃ (j : Nat) (es : List MapEntry), j ≤ nodes.length ∧ x = .int .i64 j ∧ GrpM wr (bm + 1) bm es (grpOf (nodes.take j)) ∧ Blk wr (w.heap.size + 1) 30 #[.int .i64 inp, .slice AP rs.length cp, .slice AN nodes.length cn, .slice AO outs.length co] ∧ Below w.heap.size w wr) (fun x _ => nodes.length - (intOf x).toNat)
  case atStart => exact ⟨0, [], by omega, rfl, M0, K2, hB2⟩
  case round =>
    obtain ⟨j, es, hj, rfl, hG, KG, hBw⟩ := hrel
    clear M0 K2 hB2
    have g2 : wr.cell? ⟨w.heap.size + 1, 2, none⟩ = some (.slice AN nodes.length cn) := KG.cellv 2 rfl
    by_cases hlt : j < nodes.length
    · obtain ⟨b, o, rfl, hb, c0, c1, c2, c3⟩ := (HNd.out.below hBw).ix hlt
      have hsn := Lib.hid (grpOf_snoc nodes j hlt)
      obtain ⟨hr1, _⟩ := hRef.out j hlt
      generalize nodes[j] = x at *
      obtain ⟨op, x1, x2, k⟩ := x
      dsimp only at c0 c1 c2 c3 hr1
      have KN : Blk (wr.alloc (.cells #[.int .i64 op, .int .i64 x1, .int .i64 x2, .int .i64 k] 40)) wr.heap.size 40 #[.int .i64 op, .int .i64 x1, .int .i64 x2, .int .i64 k] := Blk.new _ _ _
      cases ht : turns (op, x1, x2, k) with
      | false =>
        rw [ht] at hsn
        have hG2 := hG.alloc (.cells #[.int .i64 op, .int .i64 x1, .int .i64 x2, .int .i64 k] 40)
        have KG2 := KG.alloc (.cells #[.int .i64 op, .int .i64 x1, .int .i64 x2, .int .i64 k] 40)
        have hBw2 := hBw.alloc hBw.size (.cells #[.int .i64 op, .int .i64 x1, .int .i64 x2, .int .i64 k] 40)
        have hG3 : GrpM (wr.alloc (.cells #[.int .i64 op, .int .i64 x1, .int .i64 x2, .int .i64 k] 40)) (bm + 1) bm es (grpOf (nodes.take (j + 1))) := by rw [hsn.out]; exact hG2
        have q10 : (op == 10) = false := by unfold turns at ht; simp at ht; simp [ht.1]
        have hq9 : (op == 9) = false ∨ (op == 9) = true ∧ (k != 0) = false := by
          unfold turns at ht
          by_cases h : op = 9
          · subst h; right; simpa using ht
          · left; simpa using h
        clear ht hG hG2 KG hBw hr1 hsn
        rcases hq9 with q9 | ⟨q9, qk⟩
        all_goals
          go_wp2
          exact ⟨⟨j + 1, es, by omega, by go_num, hG3, KG2, hBw2⟩, by simp [intOf]; omega⟩
      | true =>
        rw [ht] at hsn
        have hA : hasA op = true := by
          unfold turns at ht
          unfold hasA
          simp at ht ⊢
          omega
        have hx1 : 0 ≤ x1 ∧ x1 < j := by
          unfold argB at hr1
          rw [hA] at hr1
          simpa using hr1
        have hshort := short_of (nodes.take j)
        replace hG := hG.alloc (.cells #[.int .i64 op, .int .i64 x1, .int .i64 x2, .int .i64 k] 40)
        replace KG := KG.alloc (.cells #[.int .i64 op, .int .i64 x1, .int .i64 x2, .int .i64 k] 40)
        replace hBw := hBw.alloc hBw.size (.cells #[.int .i64 op, .int .i64 x1, .int .i64 x2, .int .i64 k] 40)
        have hbase : bm + 1 ≤ (wr.alloc (.cells #[.int .i64 op, .int .i64 x1, .int .i64 x2, .int .i64 k] 40)).heap.size := by have := hG.map.lt; omega
        have hcase : (op == 10) = true ∨ (op == 10) = false ∧ (op == 9) = true ∧ (k != 0) = true := by
          unfold turns at ht
          by_cases h : op = 10
          · left; simpa using h
          · right; simpa [h] using ht
        obtain ⟨x1l, x1h⟩ := hx1
        obtain ⟨v, lst, hrunL, hLook, hownL⟩ := hG.look2 x1 (by omega) (by omega)
        have HL := Lib.hid hrunL
        have hll : lst.length ≤ j := Nat.le_trans (hLook.short hshort) (List.length_take_le _ _)
        clear ht hr1 hA hrunL hshort
        obtain ⟨i0, hi0, hz0, hz1, hz2⟩ := info_parts info_i64
        rcases hcase with q10 | ⟨q10, q9, qk⟩
        all_goals
          go_wp2_with fail
          go_upto_region 9 with fail
          obtain ⟨W, hW⟩ : ∃ W : World, W = (wr.alloc (.cells #[.int .i64 op, .int .i64 x1, .int .i64 x2, .int .i64 k] 40)) := ⟨_, rfl⟩
          rw [← hW] at KN KG hG hBw hownL hbase ⊢
          clear hW g2 c0 c1 c2 c3 hb
          have c1 : W.cell? ⟨wr.heap.size, 1, none⟩ = some (.int .i64 x1) := KN.cellv 1 rfl
          have hnl := KN.lt
          generalize wr.heap.size = bn at *
          have L1 : (Instr.lookup 50 (.map (some bm)) (.int .i64 x1) false).run Try.prog W.drew = .ok v W.drew := HL.out _ (hG.map.drewN 1)
          have L2 : (Instr.lookup 50 (.map (some bm)) (.int .i64 x1) false).run Try.prog (W.alloc (.cells #[.int .i64 j] 3)).drew = .ok v (W.alloc (.cells #[.int .i64 j] 3)).drew := HL.out _ ((hG.map.alloc _).drewN 1)
          go_region_law (first
            | (refine step_append_lies _ (by rfl) _ _ _ (by rfl) (bm + 1) 3 i0 _ 1 8 Try.underlying28 hi0 hz0 hz1 hz2 rfl (by omega) v lst.length _ (by rfl) ((hownL.alloc _).drew) ⟨W.heap.size, 0, none⟩ 1 1 [.int .i64 j] (by rfl) (by rfl) (World.news_of_block (cs := #[.int .i64 j]) (t := 3) (fr := (0, 0)) (heap_alloc_new W _)) (by simp [Value.oneCell']) (by omega) (by unfold maxLen; omega) (by omega) (by simp; omega) (W.heap.size + 1) (by simp) ?_; intro gg cap w1' hown1 hgrow hat hlt'; have c1' := (((KN.alloc _).drewN 1).grown hgrow (blk_not_row KN (by decide) hownL)).cellv 1 rfl; obtain ⟨w2', es2, hrun2, hG2, hg2⟩ := (hG.alloc (.cells #[.int .i64 j] 3)).step (by simp; omega) x1 (by omega) (by omega) hLook j (w1 := w1') ⟨hgrow.os, hgrow.tape, hgrow.output, hgrow.size, hgrow.block⟩ (v' := .slice (some ⟨gg, 0, none⟩) (lst.length + 1) cap) (by rw [ints_snoc]; exact hown1) (by rcases hat with h | h; exact .inl h.symm; exact .inr ⟨gg, rfl, by simp; omega⟩)))
          all_goals
            have KG2 := (((KG.alloc _).drewN 1).grown hgrow (own_far hownL (by omega))).grown hg2 (by simp; omega)
            have hBw2 : Below w.heap.size w w2' := (((hBw.alloc hBw.size _).trans (bl_drewN (Below.refl _ _) 1)).grown hgrow (Nat.le_trans hBw.size (by simp)) (fun q hq => by have := (hownL.lt q hq).1; omega)).grown hg2 (Nat.le_trans hBw.size (Nat.le_trans (by simp) hgrow.size)) (fun q hq => by cases hq; omega)
            clear L1 L2 hrun2
            go_wp2
            exact ⟨⟨j + 1, es2, by omega, by go_num, by rw [hsn.out, if_pos trivial]; exact hG2, KG2, hBw2⟩, by simp [intOf]; omega⟩
    · have hje : j = nodes.length := by omega
      rw [hje, List.take_length] at hG
      have hlen := grpOf_len nodes
      have hes : es.length ≤ 100000 := by rw [hG.len]; omega
      obtain ⟨hr1, hr2, hr3⟩ := hG.rows
      have hval : ∀ e ∈ es, ∃ s : SlV, e.val = slV s := fun e he => by
        have h1 : e.val ∈ (rowsOf es (grpOf nodes)).map rowV := by rw [hr1]; exact List.mem_map.2 ⟨e, he, rfl⟩
        obtain ⟨r, _, h2⟩ := List.mem_map.1 h1
        exact ⟨slOf r, h2.symm⟩
      have hG2 := hG.alloc (.cells #[.map (some bm)] 50)
      have hB2 := hBw.alloc hBw.size (.cells #[.map (some bm)] 50)
      have hc := Lib.hid (collect_any wr.heap.size bm es.length es hG.born hval hes (wr.alloc (.cells #[.map (some bm)] 50)) (by simp) (by
        have := (Blk.new wr 50 #[.map (some bm)]).cellv 0 rfl
        exact this) hG2.map)
      have HR1 := Lib.hid hr1
      have HR2 := Lib.hid hr2
      have HVal := Lib.hid hval
      have HJ := Lib.hid hje
      have hszw : bm + 1 ≤ wr.heap.size := hG.map.lt
      clear hG hr1 hr2 hr3 hval hBw KG hje
      go_wp2_with (first
        | (go_at_call 17; refine (values_any bm _).mono ?_; rintro e w' ⟨rfl, rfl⟩)
        | fail)
      refine hc.out.mono ?_
      rintro e w3 ⟨v, xs, rfl, hperm, hown, hb3⟩
      have hG3 := hG2.keep hb3
      have hB3 := bl_then hB2 hb3 (Nat.le_refl _)
      obtain ⟨_, _, hr3⟩ := hG3.rows
      have hp2 : xs.Perm ((rowsOf es (grpOf nodes)).map slOf) := by
        apply perm_sl
        rw [List.map_map]
        have e1 : (slV ∘ slOf) = rowV := rfl
        rw [e1, HR1.out]
        exact hperm
      have hxl : xs.length ≤ 100000 := by
        have := hperm.length_eq
        simp at this
        omega
      have hsz3 : bm + 1 ≤ w3.heap.size := hG3.map.lt
      have hel : ∀ s ∈ xs, ∀ g, v.ownBlock = some g → ElOk w3 g s := fun s hs g hg => by
        have h1 := hp2.subset hs
        obtain ⟨r, hr, rfl⟩ := List.mem_map.1 h1
        obtain ⟨_, g', z, e1, e2, e3, e4, e5, e6⟩ := hr3 r hr
        have h2 := (hown.lt g hg).1
        have h3 : g' < (wr.alloc (.cells #[.map (some bm)] 50)).heap.size := by
          obtain ⟨_, _, hr3'⟩ := hG2.rows
          obtain ⟨_, g'', z', e1', _, e3', _⟩ := hr3' r hr
          rw [e1] at e1'
          have : g' = g'' := by injection e1' with e1'; injection e1'
          omega
        exact ⟨g', z, e1, e4, by omega, e3, e6⟩
      have hys : ((rowsOf es (grpOf nodes)).map slOf).Pairwise fun a b => keyS w3 a < keyS w3 b := by
        rw [List.pairwise_map]
        have h1 := (rising_of nodes).1
        have h2 : (rowsOf es (grpOf nodes)).Pairwise fun a b => a.2.1.headD 0 < b.2.1.headD 0 := by
          have h3 : ((grpOf nodes).map (·.2)).Pairwise fun a b => a.headD 0 < b.headD 0 := by rw [List.pairwise_map]; exact h1
          rw [← HR2.out, List.pairwise_map] at h3
          exact h3
        refine h2.imp_of_mem ?_
        intro a b ha hb hab
        obtain ⟨_, g1, z1, e1, _, _, _, e5, e6⟩ := hr3 a ha
        obtain ⟨_, g2, z2, f1, _, _, _, f5, f6⟩ := hr3 b hb
        rw [keyS_of (s := slOf a) e1 e6, keyS_of (s := slOf b) f1 f6, e5, f5]
        exact hab
      have hso := Lib.hid (sorted_any w3 _ v xs _ hown hel hxl hp2 hys)
      have HO := Lib.hid hown
      clear hown hel hys hp2 hperm hc hr3
      go_wp2_with fail
      refine hso.out.mono ?_
      rintro e w4 ⟨rfl, hown4, hg4⟩
      obtain ⟨A', c', rfl, hR4, hc4⟩ := own_rd hown4
      go_wp2
      go_ret2
      have hG4 : ∀ r ∈ rowsOf es (grpOf nodes), Rd w4 r.1 (ints .i64 r.2.1) := fun r hr => by
        obtain ⟨hrd, g', z, e1, e2, e3, e4, e5, e6⟩ := hG3.rows.2.2 r hr
        intro m u hu
        obtain ⟨ad, ha, hcell⟩ := hrd m u hu
        refine ⟨ad, ha, ?_⟩
        rw [e1] at ha
        injection ha with ha
        subst ha
        have hadd : (⟨g', 0, none⟩ : Addr).add m = ⟨g', m, none⟩ := by unfold Addr.add; split <;> simp_all
        rw [hadd] at hcell ⊢
        have h3 : g' < (wr.alloc (.cells #[.map (some bm)] 50)).heap.size := by
          obtain ⟨_, g'', z', e1', _, e3', _⟩ := hG2.rows.2.2 r hr
          rw [e1] at e1'
          have : g' = g'' := by injection e1' with e1'; injection e1'
          omega
        have hne : some g' ≠ (Value.slice A' ((rowsOf es (grpOf nodes)).map slOf).length c').ownBlock := fun e => by
          have := (HO.out.lt g' e.symm).1
          omega
        exact (World.cell?_of_block (hg4.block g' e3 hne)).trans hcell
      refine ⟨A', c', rowsOf es (grpOf nodes), by simp, HR2.out, ⟨?_, hG4⟩, by simpa using hc4, ?_⟩
      · have e1 : (slV ∘ slOf) = rowV := rfl
        rw [List.map_map, e1] at hR4
        exact hR4
      · refine hB3.grown hg4 hB3.size fun q hq => ?_
        have := (HO.out.lt q hq).1
        have := hB2.size
        omega
end Go.Proofs.Ytidlfjaogjpokaa
