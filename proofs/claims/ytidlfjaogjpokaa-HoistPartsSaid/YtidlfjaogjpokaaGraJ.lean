/- The program's Depths where the parameters are valid. -/
import Derived.Test.YtidlfjaogjpokaaGraI
namespace Go.Proofs.Ytidlfjaogjpokaa
open Go.RowKit Go.Maps Go.ChangeMaps

theorem own_blk {w : World} {base : Nat} {e : TypeId} {g n : Nat} {xs : List Value} (h : w.ownsRow base e 1 (.slice (some ⟨g, 0, none⟩) n n) n xs) : Blk w g e xs.toArray := by
  rcases h.2 with ⟨h', _⟩ | ⟨g', cap', cur, h', _, hg, hnc, hcm, hcs, htake⟩
  · simp at h'
  · simp only [Value.slice.injEq, Option.some.injEq, Addr.mk.injEq, and_true, true_and] at h'
    obtain ⟨rfl, rfl⟩ := h'
    rw [List.take_of_length_le (by simp; omega)] at htake
    rw [← htake]
    exact hg
theorem below_none {w w' : World} (h : w.grownBy w' none) : Below w.heap.size w w' := ⟨h.os, h.tape, h.output, h.size, fun k hk => h.block k hk (by simp)⟩
theorem MapB.far {w : World} {b clock : Nat} {es : List MapEntry} (h : MapB w b es clock) {p : Addr} (hp : b ≠ p.block) (u : Value) : MapB (w.setCell p u) b es clock := (Below.heap_setCell w p u b hp).trans h
theorem bl_al {W w : World} (h : Below W.heap.size W w) (o : Obj) : Below W.heap.size W (w.alloc o) := h.alloc h.size o
theorem bl_dr {W w : World} (h : Below W.heap.size W w) : Below W.heap.size W w.drew := bl_drewN h 1
theorem bl_sc {W w : World} {p : Addr} (h : Below W.heap.size W w) (hp : W.heap.size ≤ p.block) (v : Value) : Below W.heap.size W (w.setCell p v) := h.setCell hp v
/-- the depths so far, then zeros -/
def CsOk (cs : Array Value) (n i : Nat) (D : List Int) : Prop := cs.size = n ∧ ∀ j, j < n → cs[j]? = some (.int .i64 (if j < i then D[j]?.getD 0 else 0))
theorem CsOk.zero (n : Nat) (D : List Int) : CsOk (madeCells (Value.int .i64 0).cells (n * 1)).toList.toArray n 0 D := by
  have e : (madeCells (Value.int .i64 0).cells (n * 1)).toList = List.replicate n (.int .i64 0) := by
    rw [Nat.mul_one]; exact toList_madeCells_one _ _
  rw [e]
  exact ⟨by simp, fun j hj => by simp [hj]⟩
/-- the depth of a node, from all depths -/
theorem depGo_pre (l : List Nd) : ∀ (out : List Int) (j : Nat), j < out.length → (depGo out l)[j]? = out[j]? := by
  induction l with
  | nil => intro out j h; rfl
  | cons x l ih => intro out j h; rw [depGo, ih _ _ (by simp; omega), List.getElem?_append_left h]
theorem depsOf_take (l : List Nd) (i j : Nat) (hi : i ≤ l.length) (hj : j < i) : (depsOf (l.take i))[j]? = (depsOf l)[j]? := by
  have h1 : depsOf l = depGo (depsOf (l.take i)) (l.drop i) := by
    unfold depsOf; rw [← depGo_append, List.take_append_drop]
  rw [h1, depGo_pre _ _ _ (by rw [depsOf_len, List.length_take]; omega)]
theorem deps_at (l : List Nd) (i : Nat) (hi : i < l.length) (h1 : argB (hasA l[i].1) i l[i].2.1 = true) (h2 : argB (hasB l[i].1) i l[i].2.2.1 = true) : (depsOf l)[i]? = some (depOf (depsOf l) l[i]) := by
  have h3 := depsOf_snoc l i hi
  have h4 : (depsOf (l.take (i + 1)))[i]? = (depsOf l)[i]? := depsOf_take l (i + 1) i (by omega) (by omega)
  rw [← h4, h3, List.getElem?_append_right (by rw [depsOf_len, List.length_take]; omega)]
  have h5 : i - (depsOf (l.take i)).length = 0 := by rw [depsOf_len, List.length_take]; omega
  rw [h5, List.getElem?_cons_zero]
  unfold depOf
  have hg : ∀ a : Int, 0 ≤ a → a < i → (depsOf (l.take i))[a.toNat]?.getD 0 = (depsOf l)[a.toNat]?.getD 0 := fun a h h' => by
    rw [depsOf_take l i a.toNat (by omega) (by omega)]
  generalize l[i] = x at h1 h2 ⊢
  unfold argB at h1 h2
  cases hA : hasA x.1 <;> cases hB : hasB x.1 <;> rw [hA] at h1 <;> rw [hB] at h2 <;> simp at h1 h2 <;> simp [hg, h1, h2]

theorem dep_arith (hA hB : Bool) (u v a1 a2 c5 : Int) (h1 : 0 ≤ u ∧ u ≤ 100000) (h2 : 0 ≤ v ∧ v ≤ 100000) (e1 : a1 = if hA then (if 0 < u then u else 0) else 0) (e2 : a2 = if hB then (if a1 < v then v else a1) else a1) :
    0 ≤ a2 ∧ a2 ≤ 100000 ∧ (if hB then (if (if hA then u else 0) < v then v else (if hA then u else 0)) else (if hA then u else 0)) + c5 = a2 + c5 := by
  have hu : (if 0 < u then u else 0) = u := by split <;> omega
  rw [hu] at e1
  rw [← e1, ← e2]
  have b1 : 0 ≤ a1 ∧ a1 ≤ 100000 := by rw [e1]; split <;> omega
  clear e1
  refine ⟨?_, ?_, rfl⟩ <;> rw [e2] <;> (repeat' split) <;> omega
theorem refers_bad (has : Bool) (i : Nat) (x : Int) (bi bd : Nat) (w : World) (hi : w.cell? ⟨bi, 0, none⟩ = some (.int .i64 i)) (h : argB has i x = false) :
    Calls Try.prog 40 #[.bool has, .int .i64 x, .pointer (some ⟨bi, 0, none⟩), .pointer (some ⟨bd, 0, none⟩)] w fun e w' => e = .returned (.bool false) ∧ w = w' := by
  cases has
  · have h' : argB false 0 x = false := h
    exact (refers_no x bi bd w).mono fun e w' ⟨h1, h2⟩ => ⟨by rw [h1, h'], h2⟩
  · exact refers_out i x bi bd w hi h
theorem refers_ok (has : Bool) (i : Nat) (x : Int) (n cap bi bd g : Nat) (w : World) (cs : Array Value) (a : Int) (D : List Int) (hi : w.cell? ⟨bi, 0, none⟩ = some (.int .i64 i)) (hd : w.cell? ⟨bd, 0, none⟩ = some (.slice (some ⟨g, 0, none⟩) n cap))
    (hg : Blk w g 3 cs) (hin : i < n) (ha : cs[i]? = some (.int .i64 a)) (hD : ∀ m : Nat, m < i → cs[m]? = some (.int .i64 (D[m]?.getD 0))) (hn : n ≤ 100000) (h : argB has i x = true) :
    Calls Try.prog 40 #[.bool has, .int .i64 x, .pointer (some ⟨bi, 0, none⟩), .pointer (some ⟨bd, 0, none⟩)] w
      fun e w' => e = .returned (.bool true) ∧ Blk w' g 3 (cs.setIfInBounds i (.int .i64 (if has then (if a < D[x.toNat]?.getD 0 then D[x.toNat]?.getD 0 else a) else a))) ∧ w.grownBy w' (some g) := by
  cases has
  · have h' : argB false 0 x = true := h
    refine (refers_no x bi bd w).mono fun e w' ⟨h1, h2⟩ => ⟨by rw [h1, h'], ?_⟩
    subst h2
    have e : cs.setIfInBounds i (.int .i64 a) = cs := by
      apply Array.ext_getElem?
      intro k
      rw [Array.getElem?_setIfInBounds]
      split
      · rename_i hk
        subst hk
        split
        · exact ha.symm
        · rename_i hk; rw [Array.getElem?_eq_none (by omega)] at ha; cases ha
      · rfl
    simp only [Bool.false_eq_true, if_false]
    rw [e]
    exact ⟨hg, World.grownBy.refl w _⟩
  · unfold argB at h
    simp at h
    obtain ⟨m, rfl⟩ : ∃ m : Nat, x = m := ⟨x.toNat, by omega⟩
    have := refers_in i m n cap bi bd g w cs a (D[m]?.getD 0) hi hd hg hin (by omega) ha (hD m (by omega)) hn
    simpa using this
theorem CsOk.step {cs : Array Value} {n i : Nat} {D : List Int} {d : Int} (h : CsOk cs n i D) (hd : D[i]? = some d) (hi : i < n) : CsOk (cs.setIfInBounds i (.int .i64 d)) n (i + 1) D := by
  refine ⟨by simpa using h.1, fun j hj => ?_⟩
  rw [Array.getElem?_setIfInBounds]
  by_cases e : i = j
  · subst e
    have := h.1
    rw [if_pos rfl, if_pos (by omega), if_pos (by omega), hd]; rfl
  · rw [if_neg e, h.2 j hj]
    by_cases h1 : j < i
    · rw [if_pos h1, if_pos (by omega)]
    · rw [if_neg h1, if_neg (by omega)]
theorem set_set (cs : Array Value) (i : Nat) (u v : Value) : (cs.setIfInBounds i u).setIfInBounds i v = cs.setIfInBounds i v := by
  apply Array.ext_getElem?
  intro k
  simp only [Array.getElem?_setIfInBounds, Array.size_setIfInBounds]
  by_cases e : i = k
  · subst e; simp
  · simp [e]
theorem set_get {cs : Array Value} {i : Nat} (u : Value) (h : i < cs.size) : (cs.setIfInBounds i u)[i]? = some u := by
  rw [Array.getElem?_setIfInBounds, if_pos rfl, if_pos h]
theorem blk3_0 (W : World) (t : TypeId) (cs : Array Value) (Y Z : Obj) : Blk (((W.alloc (.cells cs t)).alloc Y).alloc Z).drew W.heap.size t cs := ((Blk.new W t cs).alloc Y).alloc Z
theorem blk3_1 (W : World) (t : TypeId) (cs : Array Value) (Y Z : Obj) : Blk (((W.alloc Y).alloc (.cells cs t)).alloc Z).drew (W.heap.size + 1) t cs := by
  have := (Blk.new (W.alloc Y) t cs).alloc Z
  rw [show (W.alloc Y).heap.size = W.heap.size + 1 by simp] at this
  exact this
theorem blk3_2 (W : World) (t : TypeId) (cs : Array Value) (Y Z : Obj) : Blk (((W.alloc Y).alloc Z).alloc (.cells cs t)).drew (W.heap.size + 1 + 1) t cs := by
  have := Blk.new ((W.alloc Y).alloc Z) t cs
  rw [show ((W.alloc Y).alloc Z).heap.size = W.heap.size + 1 + 1 by simp] at this
  exact this

set_option maxRecDepth 100000 in
set_option maxHeartbeats 8000000 in
theorem pdepths_ok (N pr pw sp wt er : Int) (A : Option Addr) (l : List Int) (c : Nat) (inp : Int) (AP : Option Addr) (rs : List RowT) (cp : Nat) (AN : Option Addr) (nodes : List Nd) (cn : Nat) (AO : Option Addr) (outs : List Int) (co : Nat)
    (w : World) (hl : Rd w A (ints .u32 l)) (hc : l.length ≤ c) (hb : ∀ q ∈ l, 0 ≤ q ∧ q < 4294967296)
    (p0 : 0 ≤ pr) (p1 : pr < 4294967296) (r0 : -9223372036854775808 ≤ pw) (r1 : pw ≤ 9223372036854775807) (s0 : 0 ≤ sp) (s1 : sp < 4294967296) (hlen : l.length ≤ 100000)
    (hP : Rws w AP rs) (hN : Nds w AN nodes) (hO : Rd w AO (ints .i64 outs)) (bP : rs.length ≤ 100000) (bR : ∀ r ∈ rs, r.2.1.length ≤ 100000) (bN : nodes.length ≤ 100000) (bO : outs.length ≤ 100000)
    (bK : ∀ x ∈ nodes, -9223372036854775808 ≤ x.1 ∧ x.1 ≤ 9223372036854775807)
    (hk : M.checkOf M.primeP N pr pw l sp wt er = true) :
    Calls Try.prog 24 #[.agg #[.int .i64 N, .int .u32 pr, .int .i64 pw, .slice A l.length c, .int .u32 sp, .int .i64 wt, .int .u32 er], .agg #[.int .i64 inp, .slice AP rs.length cp, .slice AN nodes.length cn, .slice AO outs.length co]] w (DepPost w (grE N (M.plainOf M.primeP N pr pw) inp (rs.map (·.2.1)) nodes outs) nodes.length (depsOf nodes)) := by
  have H1 := Lib.hid (pmodulus_ok N pr pw sp wt er pw A l c _ ((hl.alloc (.cells #[.int .i64 N, .int .u32 pr, .int .i64 pw, .slice A l.length c, .int .u32 sp, .int .i64 wt, .int .u32 er] 25)).alloc (.cells #[.int .i64 inp, .slice AP rs.length cp, .slice AN nodes.length cn, .slice AO outs.length co] 30)) hc hb p0 p1 r0 r1 s0 s1 hlen hk (checkOf_pw hk).1 (Int.le_refl _))
  have hB := ((Below.refl w.heap.size w).alloc (Nat.le_refl _) (.cells #[.int .i64 N, .int .u32 pr, .int .i64 pw, .slice A l.length c, .int .u32 sp, .int .i64 wt, .int .u32 er] 25)).alloc (by simp) (.cells #[.int .i64 inp, .slice AP rs.length cp, .slice AN nodes.length cn, .slice AO outs.length co] 30)
  have hN1 := checkOf_NP hk
  have ht := M.plainOf_le M.primeP N pr pw
  have ht1 := (checkOf_pw hk).2
  have HP := Lib.hid hP
  have HNd := Lib.hid hN
  have HO := Lib.hid hO
  have BRs : Hid (∀ i (h : i < rs.length), (rs[i]).2.1.length ≤ 100000) := Lib.hid fun i h => bR _ (List.getElem_mem h)
  have BK : Hid (∀ i (h : i < nodes.length), -9223372036854775808 ≤ (nodes[i]).1 ∧ (nodes[i]).1 ≤ 9223372036854775807) := Lib.hid fun i h => bK _ (List.getElem_mem h)
  have KP : Blk (w.alloc (.cells #[.int .i64 N, .int .u32 pr, .int .i64 pw, .slice A l.length c, .int .u32 sp, .int .i64 wt, .int .u32 er] 25)) w.heap.size 25 #[.int .i64 N, .int .u32 pr, .int .i64 pw, .slice A l.length c, .int .u32 sp, .int .i64 wt, .int .u32 er] := Blk.new _ _ _
  have KP1 := KP.alloc (.cells #[.int .i64 inp, .slice AP rs.length cp, .slice AN nodes.length cn, .slice AO outs.length co] 30)
  have KG : Blk ((w.alloc (.cells #[.int .i64 N, .int .u32 pr, .int .i64 pw, .slice A l.length c, .int .u32 sp, .int .i64 wt, .int .u32 er] 25)).alloc (.cells #[.int .i64 inp, .slice AP rs.length cp, .slice AN nodes.length cn, .slice AO outs.length co] 30)) (w.heap.size + 1) 30 #[.int .i64 inp, .slice AP rs.length cp, .slice AN nodes.length cn, .slice AO outs.length co] := by
    have := Blk.new (w.alloc (.cells #[.int .i64 N, .int .u32 pr, .int .i64 pw, .slice A l.length c, .int .u32 sp, .int .i64 wt, .int .u32 er] 25)) 30 #[.int .i64 inp, .slice AP rs.length cp, .slice AN nodes.length cn, .slice AO outs.length co]
    simpa using this
  clear hl hb hk hP hN hO bR KP bK
  generalize M.plainOf M.primeP N pr pw = t at *
  go_enter Try.func24, Try.ntmps24
  go_wp2_with fail
  refine H1.out.mono ?_
  rintro e w1 ⟨rfl, hb⟩
  have hB1 := bl_then hB hb (by simp)
  have K1 := KP1.keep hb
  have K2 := KG.keep hb
  have hz1 : w.heap.size + 2 ≤ w1.heap.size := by have := hb.size; simp at this; omega
  clear hB hb KP1 KG H1
  have a0 : w1.cell? ⟨w.heap.size, 0, none⟩ = some (.int .i64 N) := K1.cellv 0 rfl
  have g0 : w1.cell? ⟨w.heap.size + 1, 0, none⟩ = some (.int .i64 inp) := K2.cellv 0 rfl
  have g1 : w1.cell? ⟨w.heap.size + 1, 1, none⟩ = some (.slice AP rs.length cp) := K2.cellv 1 rfl
  have g2 : w1.cell? ⟨w.heap.size + 1, 2, none⟩ = some (.slice AN nodes.length cn) := K2.cellv 2 rfl
  have g3 : w1.cell? ⟨w.heap.size + 1, 3, none⟩ = some (.slice AO outs.length co) := K2.cellv 3 rfl
  by_cases hbig : 400 < nodes.length ∨ 400 < rs.length
  · have hr : Hid (grE N t inp (rs.map (·.2.1)) nodes outs = 3) := Lib.hid (by unfold grE; rw [if_pos (by simpa using hbig)])
    by_cases h : 400 < nodes.length
    · have q1 : decide ((400 : Int) < (nodes.length : Int)) = true := decide_eq_true (by omega)
      clear hbig h
      go_wp2
      go_ret2
      exact DepPost.err hr.out (by decide) hB1
    · have q1 : decide ((400 : Int) < (nodes.length : Int)) = false := decide_eq_false (by omega)
      have q2 : decide ((400 : Int) < (rs.length : Int)) = true := decide_eq_true (by omega)
      clear hbig h
      go_wp2
      go_ret2
      exact DepPost.err hr.out (by decide) hB1
  have q1 : decide ((400 : Int) < (nodes.length : Int)) = false := decide_eq_false (by omega)
  have q2 : decide ((400 : Int) < (rs.length : Int)) = false := decide_eq_false (by omega)
  by_cases hin : inp < 0 ∨ 8 < inp ∨ outs.length < 1 ∨ 8 < outs.length
  · have hr : Hid (grE N t inp (rs.map (·.2.1)) nodes outs = 2) := Lib.hid (by unfold grE; rw [if_neg (by simpa using hbig), if_pos hin])
    clear hbig
    by_cases i1 : inp < 0
    · have q3 : decide (inp < 0) = true := decide_eq_true i1
      clear hin i1
      go_wp2
      go_ret2
      exact DepPost.err hr.out (by decide) hB1
    · have q3 : decide (inp < 0) = false := decide_eq_false i1
      by_cases i2 : 8 < inp
      · have q4 : decide (8 < inp) = true := decide_eq_true i2
        clear hin i1 i2
        go_wp2
        go_ret2
        exact DepPost.err hr.out (by decide) hB1
      · have q4 : decide (8 < inp) = false := decide_eq_false i2
        by_cases i3 : outs.length < 1
        · have q5 : outs.length = 0 := by omega
          have q6 : decide ((outs.length : Int) < 1) = true := decide_eq_true (by omega)
          have Q5 := Lib.hid q5
          clear hin i1 i2 i3 q5
          go_wp2
          go_ret2
          exact DepPost.err hr.out (by decide) hB1
        · have q5 : decide ((outs.length : Int) < 1) = false := decide_eq_false (by omega)
          have q6 : decide ((8 : Int) < (outs.length : Int)) = true := decide_eq_true (by omega)
          clear hin i1 i2 i3
          go_wp2
          go_ret2
          exact DepPost.err hr.out (by decide) hB1
  have HE : Hid (grE N t inp (rs.map (·.2.1)) nodes outs = if (rs.map (·.2.1)).all (vecB N t) && (nodesGo N t inp rs.length 0 nodes && (depB (depsOf nodes) && outsB nodes.length outs)) then 0 else 2) := Lib.hid (by
    unfold grE; rw [if_neg (by simpa using hbig), if_neg hin, List.length_map])
  have b1 : nodes.length ≤ 400 := by omega
  have b2 : rs.length ≤ 400 := by omega
  have b3 : 0 ≤ inp := by omega
  have b4 : inp ≤ 8 := by omega
  have b5 : 1 ≤ outs.length := by omega
  have b6 : outs.length ≤ 8 := by omega
  have q3 : decide (inp < 0) = false := decide_eq_false (by omega)
  have q4 : decide (8 < inp) = false := decide_eq_false (by omega)
  have q5 : decide ((outs.length : Int) < 1) = false := decide_eq_false (by omega)
  have q6 : decide ((8 : Int) < (outs.length : Int)) = false := decide_eq_false (by omega)
  have n1 : 1 ≤ N := by omega
  have n2 : N ≤ 64 := by omega
  have t2 : t ≤ 2147483647 := by omega
  clear hbig hin a0 hN1 ht
  go_wp2
  go_loopw [64] (fun x wr => ∃ i : Nat, i ≤ rs.length ∧ x = .int .i64 i ∧ Below w1.heap.size w1 wr ∧ Hid (grE N t inp (rs.map (·.2.1)) nodes outs = if ((rs.drop i).map (·.2.1)).all (vecB N t) && (nodesGo N t inp rs.length 0 nodes && (depB (depsOf nodes) && outsB nodes.length outs)) then 0 else 2)) (fun x _ => rs.length - (intOf x).toNat)
  case atStart => exact ⟨0, by omega, rfl, Below.refl _ _, HE⟩
  case round =>
    obtain ⟨i, hi, rfl, hB, G⟩ := hrel
    have a0 : wr.cell? ⟨w.heap.size, 0, none⟩ = some (.int .i64 N) := (K1.keep hB).cellv 0 rfl
    have a1 : wr.cell? ⟨w.heap.size, 1, none⟩ = some (.int .u32 pr) := (K1.keep hB).cellv 1 rfl
    have a2 : wr.cell? ⟨w.heap.size, 2, none⟩ = some (.int .i64 pw) := (K1.keep hB).cellv 2 rfl
    have a3 : wr.cell? ⟨w.heap.size, 3, none⟩ = some (.slice A l.length c) := (K1.keep hB).cellv 3 rfl
    have a4 : wr.cell? ⟨w.heap.size, 4, none⟩ = some (.int .u32 sp) := (K1.keep hB).cellv 4 rfl
    have a5 : wr.cell? ⟨w.heap.size, 5, none⟩ = some (.int .i64 wt) := (K1.keep hB).cellv 5 rfl
    have a6 : wr.cell? ⟨w.heap.size, 6, none⟩ = some (.int .u32 er) := (K1.keep hB).cellv 6 rfl
    have g0 : wr.cell? ⟨w.heap.size + 1, 0, none⟩ = some (.int .i64 inp) := (K2.keep hB).cellv 0 rfl
    have g1 : wr.cell? ⟨w.heap.size + 1, 1, none⟩ = some (.slice AP rs.length cp) := (K2.keep hB).cellv 1 rfl
    have g2 : wr.cell? ⟨w.heap.size + 1, 2, none⟩ = some (.slice AN nodes.length cn) := (K2.keep hB).cellv 2 rfl
    have g3 : wr.cell? ⟨w.heap.size + 1, 3, none⟩ = some (.slice AO outs.length co) := (K2.keep hB).cellv 3 rfl
    clear HE
    by_cases hlt : i < rs.length
    · obtain ⟨b, o, rfl, hcell⟩ := ((HP.out.below hB1).below hB).ix hlt
      have hRd := ((HP.out.below hB1).below hB).2 rs[i] (List.getElem_mem hlt)
      have hcall := Lib.hid (vector_any N pr pw sp wt er t A l.length c rs[i].1 rs[i].2.1 rs[i].2.2 wr hRd (BRs.out i hlt) n1 ht1 t2)
      have G2 : Hid (grE N t inp (rs.map (·.2.1)) nodes outs = if (vecB N t rs[i].2.1 && ((rs.drop (i + 1)).map (·.2.1)).all (vecB N t)) && (nodesGo N t inp rs.length 0 nodes && (depB (depsOf nodes) && outsB nodes.length outs)) then 0 else 2) := Lib.hid (by
        rw [G.out, List.drop_eq_getElem_cons hlt, List.map_cons, List.all_cons])
      clear G hRd
      cases hv : vecB N t rs[i].2.1 with
      | true =>
        rw [hv] at G2 hcall
        have G3 := Lib.hid G2.out
        simp only [Bool.true_and] at G3
        clear G2 hv
        go_wp2_with fail
        refine hcall.out.mono ?_
        rintro e w' ⟨rfl, hb1⟩
        go_wp2
        exact ⟨⟨i + 1, by omega, by go_num, bl_then hB hb1 (Nat.le_refl _), G3⟩, by simp [intOf]; omega⟩
      | false =>
        rw [hv] at G2 hcall
        have hr : Hid (grE N t inp (rs.map (·.2.1)) nodes outs = 2) := Lib.hid (by rw [G2.out]; simp)
        clear G2 hv
        go_wp2_with fail
        refine hcall.out.mono ?_
        rintro e w' ⟨rfl, hb1⟩
        go_wp2
        go_ret2
        exact DepPost.err hr.out (by decide) (bl_then hB1 (bl_then hB hb1 (Nat.le_refl _)) (Nat.le_refl _))
    · have G2 : Hid (grE N t inp (rs.map (·.2.1)) nodes outs = if nodesGo N t inp rs.length 0 nodes && (depB (depsOf nodes) && outsB nodes.length outs) then 0 else 2) := Lib.hid (by
        rw [G.out, List.drop_eq_nil_of_le (by omega)]; rfl)
      have hcall := Lib.hid (plimits_any N pr pw sp wt er t inp A l.length c AP rs.length cp AN nodes.length cn AO outs.length co wr n1 n2 ht1 t2 bP b3 b4)
      have hB2 := bl_then hB1 hB (Nat.le_refl _)
      have K3 := K1.keep hB
      have K4 := K2.keep hB
      clear G
      go_wp2_with fail
      refine hcall.out.mono ?_
      rintro e w2 ⟨bm, rfl, hM, hb1⟩
      have hB3 := bl_then hB2 hb1 (Nat.le_refl _)
      have K5 := K3.keep hb1
      have K6 := K4.keep hb1
      have hz2 : w.heap.size + 2 ≤ w2.heap.size := by have := hb1.size; have := hB.size; omega
      have hMl := hM.lt
      have g2 : w2.cell? ⟨w.heap.size + 1, 2, none⟩ = some (.slice AN nodes.length cn) := K6.cellv 2 rfl
      clear a0 a1 a2 a3 a4 a5 a6 g0 g1 g3 hcall hB K1 K2 hB1 K3 K4 hB2 hb1
      obtain ⟨i0, hi0, hz0, hz1, hz2'⟩ := info_parts info_i64
      go_wp2_with (at_make; refine wpList_make_full _ rfl (.tmp 80) (.tmp 80) 28 rfl (w.heap.size + 2) 3 i0 (.int .i64 0) 1 Try.underlying28 hi0 hz0 hz1 .i64 .i64 _ _ nodes.length rfl rfl rfl rfl (by rw [hz2']; omega) (by unfold maxLen; omega) (by omega) ?_; intro w3 hown3 hg3; have g2' := ((K6.grown hg3 (by simp)).alloc (.cells #[.slice (some ⟨w2.heap.size, 0, none⟩) nodes.length nodes.length] 28)).cellv 2 rfl; have hz3 : w2.heap.size < w3.heap.size := (own_blk hown3).lt)
      have C3 := own_blk hown3
      have hB4 := bl_then hB3 (below_none hg3) (Nat.le_refl _)
      have M3 := (hM.grown hg3 (by simp)).alloc (.cells #[.slice (some ⟨w2.heap.size, 0, none⟩) nodes.length nodes.length] 28)
      have K7 := (K6.grown hg3 (by simp)).alloc (.cells #[.slice (some ⟨w2.heap.size, 0, none⟩) nodes.length nodes.length] 28)
      have D3 : Blk (w3.alloc (.cells #[.slice (some ⟨w2.heap.size, 0, none⟩) nodes.length nodes.length] 28)) w3.heap.size 28 #[.slice (some ⟨w2.heap.size, 0, none⟩) nodes.length nodes.length] := Blk.new _ _ _
      have hC0 : CsOk (madeCells (Value.int .i64 0).cells (nodes.length * 1)).toList.toArray nodes.length 0 (depsOf nodes) := CsOk.zero _ _
      have C4 := C3.alloc (.cells #[.slice (some ⟨w2.heap.size, 0, none⟩) nodes.length nodes.length] 28)
      have hB5 := hB4.alloc hB4.size (.cells #[.slice (some ⟨w2.heap.size, 0, none⟩) nodes.length nodes.length] 28)
      have GD : Hid (grE N t inp (rs.map (·.2.1)) nodes outs = if nodesGo N t inp rs.length 0 nodes && depB (depsOf nodes) && outsB nodes.length outs then 0 else 2) := Lib.hid (by rw [G2.out, Bool.and_assoc])
      clear hM K5 K6 g2 g2' hown3 hg3 hB3 hB4 C3 G2 hlt hi
      generalize (madeCells (Value.int .i64 0).cells (nodes.length * 1)).toList.toArray = cs0 at *
      obtain ⟨bd, hbd⟩ : ∃ bd, bd = w3.heap.size := ⟨_, rfl⟩
      obtain ⟨bg, hbg⟩ : ∃ bg, bg = w2.heap.size := ⟨_, rfl⟩
      simp only [← hbd, ← hbg] at D3 C4 K7 M3 hB5 ⊢
      have hbd' : w.heap.size + 2 ≤ bg ∧ bg < bd ∧ bm < bg := by omega
      have HBD := Lib.hid hbd
      have HBG := Lib.hid hbg
      obtain ⟨o1, o2, o3⟩ := hbd'
      clear hbd hbg hz2 hz3 hMl
      go_loopw [85] (fun x wr => ∃ (j : Nat) (cs : Array Value), j ≤ nodes.length ∧ x = .int .i64 j ∧ Blk wr (w.heap.size + 1) 30 #[.int .i64 inp, .slice AP rs.length cp, .slice AN nodes.length cn, .slice AO outs.length co] ∧ MapB wr bm (limEs N t inp rs.length) 5 ∧ Blk wr bd 28 #[.slice (some ⟨bg, 0, none⟩) nodes.length nodes.length] ∧ Blk wr bg 3 cs ∧ CsOk cs nodes.length j (depsOf nodes) ∧ Below w.heap.size w wr ∧ Hid (grE N t inp (rs.map (·.2.1)) nodes outs = if nodesGo N t inp rs.length j (nodes.drop j) && depB ((depsOf nodes).drop j) && outsB nodes.length outs then 0 else 2)) (fun x _ => nodes.length - (intOf x).toNat)
      case atStart => exact ⟨0, cs0, by omega, rfl, K7, M3, D3, C4, hC0, hB5, GD⟩
      case round =>
        obtain ⟨j, cs, hj, rfl, KG, MM, KD, KC, hCs, hBw, G⟩ := hrel
        clear GD K7 M3 D3 C4 hB5 hC0
        have g2 : wr.cell? ⟨w.heap.size + 1, 2, none⟩ = some (.slice AN nodes.length cn) := KG.cellv 2 rfl
        by_cases hlt : j < nodes.length
        · obtain ⟨b, o, rfl, hb, c0, c1, c2, c3⟩ := (HNd.out.below hBw).ix hlt
          obtain ⟨k0, k1⟩ := BK.out j hlt
          have GN := Lib.hid (nodesGo_drop N t inp rs.length nodes j hlt)
          have GDp := Lib.hid (deps_at nodes j hlt)
          generalize hx : nodes[j] = x at *
          obtain ⟨op, x1, x2, k⟩ := x
          dsimp only at c0 c1 c2 c3 k0 k1
          have HX := Lib.hid hx
          clear hx
          by_cases hop : 1 ≤ op ∧ op ≤ 10
          · obtain ⟨p1', p2'⟩ := hop
            have e1 : decide (op < 1) = false := decide_eq_false (by omega)
            have e2 : decide (10 < op) = false := decide_eq_false (by omega)
            have hbgi : bg < wr.heap.size := KC.lt
            have KI : Blk ((wr.alloc (.cells #[.int .i64 j] 3)).alloc (.cells #[.int .i64 op, .int .i64 x1, .int .i64 x2, .int .i64 k] 40)) wr.heap.size 3 #[.int .i64 j] := (Blk.new wr _ _).alloc _
            have KN : Blk ((wr.alloc (.cells #[.int .i64 j] 3)).alloc (.cells #[.int .i64 op, .int .i64 x1, .int .i64 x2, .int .i64 k] 40)) (wr.heap.size + 1) 40 #[.int .i64 op, .int .i64 x1, .int .i64 x2, .int .i64 k] := by
              have := Blk.new (wr.alloc (.cells #[.int .i64 j] 3)) 40 #[.int .i64 op, .int .i64 x1, .int .i64 x2, .int .i64 k]
              simpa using this
            replace KG := (KG.alloc (.cells #[.int .i64 j] 3)).alloc (.cells #[.int .i64 op, .int .i64 x1, .int .i64 x2, .int .i64 k] 40)
            replace MM := (MM.alloc (.cells #[.int .i64 j] 3)).alloc (.cells #[.int .i64 op, .int .i64 x1, .int .i64 x2, .int .i64 k] 40)
            replace KD := (KD.alloc (.cells #[.int .i64 j] 3)).alloc (.cells #[.int .i64 op, .int .i64 x1, .int .i64 x2, .int .i64 k] 40)
            replace KC := (KC.alloc (.cells #[.int .i64 j] 3)).alloc (.cells #[.int .i64 op, .int .i64 x1, .int .i64 x2, .int .i64 k] 40)
            replace hBw := (hBw.alloc hBw.size (.cells #[.int .i64 j] 3)).alloc (Nat.le_trans hBw.size (by simp)) (.cells #[.int .i64 op, .int .i64 x1, .int .i64 x2, .int .i64 k] 40)
            go_wp2_with fail
            go_upto_region 21 with fail
            obtain ⟨W, hW⟩ : ∃ W : World, W = ((wr.alloc (.cells #[.int .i64 j] 3)).alloc (.cells #[.int .i64 op, .int .i64 x1, .int .i64 x2, .int .i64 k] 40)) := ⟨_, rfl⟩
            rw [← hW] at KI KN KG MM KD KC hBw ⊢
            clear hW g2 c0 c1 c2 c3 hb
            have hI := KI.lt
            have hNl := KN.lt
            generalize wr.heap.size + 1 = bn at *
            generalize wr.heap.size = bi at *
            have hS : Hid (∀ w', Below W.heap.size W w' → Below W.heap.size W w' ∧ w'.cell? ⟨bn, 0, none⟩ = some (.int .i64 op) ∧ (Instr.lookup 77 (.map (some bm)) (.int .i64 op) false).run Try.prog w' = .ok (.agg #[.int .i64 (limLo t op), .int .i64 (limHi N t inp rs.length op)]) w') := Lib.hid fun w' hb =>
              ⟨hb, (KN.keep hb).cellv 0 rfl, lim_look (MM.keep hb) op k0 k1⟩
            go_cut [14, 15] (fun x y wc => ∃ f1 f2 : Nat, x = .pointer (some ⟨f1, 0, none⟩) ∧ y = .pointer (some ⟨f2, 0, none⟩) ∧ Blk wc f1 80 #[.bool (hasA op), .bool (hasB op)] ∧ Blk wc f2 82 #[.int .i64 (limLo t op), .int .i64 (limHi N t inp rs.length op)] ∧ Below W.heap.size W wc)
            case first =>
              go_region_held3 (fun w' => Below W.heap.size W w' ∧ w'.cell? ⟨bn, 0, none⟩ = some (.int .i64 op) ∧ (Instr.lookup 77 (.map (some bm)) (.int .i64 op) false).run Try.prog w' = .ok (.agg #[.int .i64 (limLo t op), .int .i64 (limHi N t inp rs.length op)]) w')
                (first
                  | exact hS.out _ (bl_drewN (Below.refl _ _) 1)
                  | (go_split_ands; refine hS.out _ ?_; repeat (first | assumption | exact Below.refl _ _ | refine bl_dr ?_ | refine bl_al ?_ _ | refine bl_then ?_ (by assumption) (Nat.le_refl _) | refine bl_sc ?_ ?_ _)))
                (first | (go_at_call 39; refine (has_eq _ _).mono ?_; rintro e w' ⟨rfl, rfl⟩))
              all_goals
                go_wp2_with fail
                go_meet
                case rel => exact ⟨_, _, rfl, rfl, (by first | exact blk3_0 _ _ _ _ _ | exact blk3_1 _ _ _ _ _ | exact blk3_2 _ _ _ _ _), (by first | exact blk3_0 _ _ _ _ _ | exact blk3_1 _ _ _ _ _ | exact blk3_2 _ _ _ _ _), bl_dr (bl_al (bl_al (bl_al (Below.refl _ _) _) _) _)⟩
            case rest =>
              obtain ⟨f1, f2, rfl, rfl, B1, B2, hbc⟩ := hcut
              clear hS
              replace KI := KI.keep hbc
              replace KN := KN.keep hbc
              replace KG := KG.keep hbc
              replace MM := MM.keep hbc
              replace KD := KD.keep hbc
              replace KC := KC.keep hbc
              replace hBw := bl_then hBw hbc (Nat.le_refl _)
              clear hbc hI hNl
              have i0 : wc.cell? ⟨bi, 0, none⟩ = some (.int .i64 j) := KI.cellv 0 rfl
              have dd : wc.cell? ⟨bd, 0, none⟩ = some (.slice (some ⟨bg, 0, none⟩) nodes.length nodes.length) := KD.cellv 0 rfl
              have v1 : wc.cell? ⟨f1, 0, none⟩ = some (.bool (hasA op)) := B1.cellv 0 rfl
              have v2 : wc.cell? ⟨f1, 1, none⟩ = some (.bool (hasB op)) := B1.cellv 1 rfl
              have v3 : wc.cell? ⟨f2, 0, none⟩ = some (.int .i64 (limLo t op)) := B2.cellv 0 rfl
              have v4 : wc.cell? ⟨f2, 1, none⟩ = some (.int .i64 (limHi N t inp rs.length op)) := B2.cellv 1 rfl
              have c0 : wc.cell? ⟨bn, 0, none⟩ = some (.int .i64 op) := KN.cellv 0 rfl
              have c1 : wc.cell? ⟨bn, 1, none⟩ = some (.int .i64 x1) := KN.cellv 1 rfl
              have c2 : wc.cell? ⟨bn, 2, none⟩ = some (.int .i64 x2) := KN.cellv 2 rfl
              have c3 : wc.cell? ⟨bn, 3, none⟩ = some (.int .i64 k) := KN.cellv 3 rfl
              have s0' : cs[j]? = some (.int .i64 0) := by rw [hCs.2 j hlt, if_neg (Nat.lt_irrefl j)]
              have sD : Hid (∀ m : Nat, m < j → cs[m]? = some (.int .i64 ((depsOf nodes)[m]?.getD 0))) := Lib.hid fun m hm => by rw [hCs.2 m (by omega), if_pos hm]
              have hCz : cs.size = nodes.length := hCs.1
              have hGN2 : Hid (grE N t inp (rs.map (·.2.1)) nodes outs = if ((argB (hasA op) j x1 && argB (hasB op) j x2 && limB N t inp rs.length (op, x1, x2, k)) && nodesGo N t inp rs.length (j + 1) (nodes.drop (j + 1))) && depB ((depsOf nodes).drop j) && outsB nodes.length outs then 0 else 2) := Lib.hid (by
                rw [G.out, GN.out]; unfold nodeB; simp only [decide_eq_true p1', decide_eq_true p2', Bool.true_and])
              have HS0 := Lib.hid s0'
              have HCs := Lib.hid hCs
              have HCz := Lib.hid hCz
              clear G GN hCs s0' hCz
              cases hA : argB (hasA op) j x1 with
              | false =>
                have hr : Hid (grE N t inp (rs.map (·.2.1)) nodes outs = 2) := Lib.hid (by rw [hGN2.out, hA]; simp)
                have hcall := Lib.hid (refers_bad (hasA op) j x1 bi bd wc i0 hA)
                clear hA hGN2
                go_wp2_with fail
                refine hcall.out.mono ?_
                rintro e w' ⟨rfl, rfl⟩
                go_wp2
                go_ret2
                exact DepPost.err hr.out (by decide) hBw
              | true =>
                have hcall := Lib.hid (refers_ok (hasA op) j x1 nodes.length nodes.length bi bd bg wc cs 0 (depsOf nodes) i0 dd KC hlt HS0.out sD.out bN hA)
                go_wp2_with fail
                refine hcall.out.mono ?_
                rintro e w4 ⟨rfl, KC4, hg4⟩
                have n1' : bi ≠ bg := by omega
                replace KI := KI.grown hg4 (by simpa using n1')
                replace KN := KN.grown hg4 (by simpa using KN.ne_ KC (by decide))
                replace KG := KG.grown hg4 (by simpa using KG.ne_ KC (by decide))
                replace KD := KD.grown hg4 (by simpa using KD.ne_ KC (by decide))
                replace B1 := B1.grown hg4 (by simpa using B1.ne_ KC (by decide))
                replace B2 := B2.grown hg4 (by simpa using B2.ne_ KC (by decide))
                replace MM := MM.grown hg4 (by simp; omega)
                replace hBw := hBw.grown hg4 hBw.size (by simp; omega)
                obtain ⟨a1, ha1⟩ : ∃ a, a = (if hasA op then (if 0 < (depsOf nodes)[x1.toNat]?.getD 0 then (depsOf nodes)[x1.toNat]?.getD 0 else 0) else 0) := ⟨_, rfl⟩
                rw [← ha1] at KC4
                have HA1 := Lib.hid ha1
                have i4 : w4.cell? ⟨bi, 0, none⟩ = some (.int .i64 j) := KI.cellv 0 rfl
                have dd4 : w4.cell? ⟨bd, 0, none⟩ = some (.slice (some ⟨bg, 0, none⟩) nodes.length nodes.length) := KD.cellv 0 rfl
                have v24 : w4.cell? ⟨f1, 1, none⟩ = some (.bool (hasB op)) := B1.cellv 1 rfl
                have v34 : w4.cell? ⟨f2, 0, none⟩ = some (.int .i64 (limLo t op)) := B2.cellv 0 rfl
                have v44 : w4.cell? ⟨f2, 1, none⟩ = some (.int .i64 (limHi N t inp rs.length op)) := B2.cellv 1 rfl
                have c04 : w4.cell? ⟨bn, 0, none⟩ = some (.int .i64 op) := KN.cellv 0 rfl
                have c24 : w4.cell? ⟨bn, 2, none⟩ = some (.int .i64 x2) := KN.cellv 2 rfl
                have c34 : w4.cell? ⟨bn, 3, none⟩ = some (.int .i64 k) := KN.cellv 3 rfl
                clear i0 dd v1 v2 v3 v4 c0 c1 c2 c3 hg4 KC hcall ha1
                cases hB2 : argB (hasB op) j x2 with
                | false =>
                  have hr : Hid (grE N t inp (rs.map (·.2.1)) nodes outs = 2) := Lib.hid (by rw [hGN2.out, hB2]; simp)
                  have hcall := Lib.hid (refers_bad (hasB op) j x2 bi bd w4 i4 hB2)
                  clear hB2 hGN2 hA
                  go_wp2_with fail
                  refine hcall.out.mono ?_
                  rintro e w' ⟨rfl, rfl⟩
                  go_wp2
                  go_ret2
                  exact DepPost.err hr.out (by decide) hBw
                | true =>
                  have hcall := Lib.hid (refers_ok (hasB op) j x2 nodes.length nodes.length bi bd bg w4 _ a1 (depsOf nodes) i4 dd4 KC4 hlt (set_get _ (by rw [HCz.out]; exact hlt)) (fun m hm => by rw [Array.getElem?_setIfInBounds, if_neg (by omega)]; exact sD.out m hm) bN hB2)
                  have hdep := Lib.hid (GDp.out hA hB2)
                  rw [hA, hB2] at hGN2
                  have hGN3 : Hid (grE N t inp (rs.map (·.2.1)) nodes outs = if (limB N t inp rs.length (op, x1, x2, k) && nodesGo N t inp rs.length (j + 1) (nodes.drop (j + 1))) && depB ((depsOf nodes).drop j) && outsB nodes.length outs then 0 else 2) := Lib.hid (by rw [hGN2.out]; simp only [Bool.true_and])
                  clear hA hB2 hGN2
                  go_wp2_with fail
                  refine hcall.out.mono ?_
                  rintro e w5 ⟨rfl, KC5, hg5⟩
                  rw [set_set] at KC5
                  replace KI := KI.grown hg5 (by simpa using n1')
                  replace KN := KN.grown hg5 (by simpa using KN.ne_ KC4 (by decide))
                  replace KG := KG.grown hg5 (by simpa using KG.ne_ KC4 (by decide))
                  replace KD := KD.grown hg5 (by simpa using KD.ne_ KC4 (by decide))
                  replace B1 := B1.grown hg5 (by simpa using B1.ne_ KC4 (by decide))
                  replace B2 := B2.grown hg5 (by simpa using B2.ne_ KC4 (by decide))
                  replace MM := MM.grown hg5 (by simp; omega)
                  replace hBw := hBw.grown hg5 hBw.size (by simp; omega)
                  obtain ⟨a2, ha2⟩ : ∃ a, a = (if hasB op then (if a1 < (depsOf nodes)[x2.toNat]?.getD 0 then (depsOf nodes)[x2.toNat]?.getD 0 else a1) else a1) := ⟨_, rfl⟩
                  rw [← ha2] at KC5
                  have hnn : ∀ m : Nat, 0 ≤ (depsOf nodes)[m]?.getD 0 ∧ (depsOf nodes)[m]?.getD 0 ≤ 100000 := fun m => by
                    have := getD_bd (depsOf nodes) 100000 (fun y hy => by have := depsOf_bd nodes y hy; omega) (by omega) m
                    rwa [List.getD_eq_getElem?_getD] at this
                  have hab : 0 ≤ a2 ∧ a2 ≤ 100000 ∧ depOf (depsOf nodes) (op, x1, x2, k) = a2 + (if op = 5 then 1 else 0) := by
                    have h3 := dep_arith (hasA op) (hasB op) _ _ a1 a2 (if op = 5 then 1 else 0) (hnn x1.toNat) (hnn x2.toNat) HA1.out ha2
                    refine ⟨h3.1, h3.2.1, ?_⟩
                    rw [← h3.2.2]
                    unfold depOf
                    simp only [List.getD_eq_getElem?_getD]
                  obtain ⟨ab1, ab2, ab3⟩ := hab
                  have HAB := Lib.hid ab3
                  have hdj : Hid ((depsOf nodes)[j]? = some (a2 + (if op = 5 then 1 else 0))) := Lib.hid (by rw [hdep.out, HAB.out])
                  have hjl : j < (depsOf nodes).length := by rw [depsOf_len]; exact hlt
                  have hdj2 : Hid ((depsOf nodes)[j] = a2 + (if op = 5 then 1 else 0)) := Lib.hid (by have := hdj.out; rw [List.getElem?_eq_getElem hjl] at this; exact Option.some.inj this)
                  have hGN4 : Hid (grE N t inp (rs.map (·.2.1)) nodes outs = if (limB N t inp rs.length (op, x1, x2, k) && nodesGo N t inp rs.length (j + 1) (nodes.drop (j + 1))) && (decide (a2 + (if op = 5 then 1 else 0) ≤ 8) && depB ((depsOf nodes).drop (j + 1))) && outsB nodes.length outs then 0 else 2) := Lib.hid (by
                    rw [hGN3.out]; unfold depB; rw [all_drop _ _ _ hjl, hdj2.out])
                  have HLm := Lib.hid (limB_pair N t inp rs.length (op, x1, x2, k))
                  have i5 : w5.cell? ⟨bi, 0, none⟩ = some (.int .i64 j) := KI.cellv 0 rfl
                  have dd5 : w5.cell? ⟨bd, 0, none⟩ = some (.slice (some ⟨bg, 0, none⟩) nodes.length nodes.length) := KD.cellv 0 rfl
                  have v35 : w5.cell? ⟨f2, 0, none⟩ = some (.int .i64 (limLo t op)) := B2.cellv 0 rfl
                  have v45 : w5.cell? ⟨f2, 1, none⟩ = some (.int .i64 (limHi N t inp rs.length op)) := B2.cellv 1 rfl
                  have c05 : w5.cell? ⟨bn, 0, none⟩ = some (.int .i64 op) := KN.cellv 0 rfl
                  have c35 : w5.cell? ⟨bn, 3, none⟩ = some (.int .i64 k) := KN.cellv 3 rfl
                  have hsz := HCz.out
                  have e5 : w5.cell? ⟨bg, j, none⟩ = some (.int .i64 a2) := KC5.cellv j (set_get _ (by omega))
                  have fr5 := KC5.frozen j
                  clear i4 dd4 v24 v34 v44 c04 c24 c34 hg5 KC4 hcall ha2 hnn ab3 hjl hsz hdep hGN3 hdj2
                  generalize limLo t op = lo at *
                  generalize limHi N t inp rs.length op = hi at *
                  have HLm2 : Hid (limB N t inp rs.length (op, x1, x2, k) = (decide (lo ≤ k) && decide (k ≤ hi))) := Lib.hid (HLm.out)
                  clear HLm
                  by_cases hk1 : k < lo
                  · have q : decide (k < lo) = true := decide_eq_true hk1
                    have hr : Hid (grE N t inp (rs.map (·.2.1)) nodes outs = 2) := Lib.hid (by rw [hGN4.out, HLm2.out, decide_eq_false (show ¬ lo ≤ k by omega)]; simp)
                    clear hGN4 hk1
                    go_wp2
                    go_ret2
                    exact DepPost.err hr.out (by decide) hBw
                  · have q : decide (k < lo) = false := decide_eq_false hk1
                    by_cases hk2 : hi < k
                    · have q' : decide (hi < k) = true := decide_eq_true hk2
                      have hr : Hid (grE N t inp (rs.map (·.2.1)) nodes outs = 2) := Lib.hid (by rw [hGN4.out, HLm2.out, decide_eq_false (show ¬ k ≤ hi by omega)]; simp)
                      clear hGN4 hk1 hk2
                      go_wp2
                      go_ret2
                      exact DepPost.err hr.out (by decide) hBw
                    · have q' : decide (hi < k) = false := decide_eq_false hk2
                      have hGN5 : Hid (grE N t inp (rs.map (·.2.1)) nodes outs = if nodesGo N t inp rs.length (j + 1) (nodes.drop (j + 1)) && (decide (a2 + (if op = 5 then 1 else 0) ≤ 8) && depB ((depsOf nodes).drop (j + 1))) && outsB nodes.length outs then 0 else 2) := Lib.hid (by
                        rw [hGN4.out, HLm2.out, decide_eq_true (show lo ≤ k by omega), decide_eq_true (show k ≤ hi by omega)]; simp only [Bool.true_and])
                      clear hGN4 hk1 hk2 HLm2
                      by_cases h5 : op = 5
                      · have z5 : (op == 5) = true := by simpa using h5
                        have E5 : Hid ((if op = 5 then (1 : Int) else 0) = 1) := Lib.hid (if_pos h5)
                        rw [E5.out] at hGN5 hdj
                        clear h5
                        by_cases h8 : a2 + 1 ≤ 8
                        · have y8 : decide (8 < a2 + 1) = false := decide_eq_false (by omega)
                          have hGN6 : Hid (grE N t inp (rs.map (·.2.1)) nodes outs = if nodesGo N t inp rs.length (j + 1) (nodes.drop (j + 1)) && depB ((depsOf nodes).drop (j + 1)) && outsB nodes.length outs then 0 else 2) := Lib.hid (by rw [hGN5.out, decide_eq_true h8, Bool.true_and])
                          clear hGN5 h8
                          have e6 : (w5.setCell ⟨bg, j, none⟩ (.int .i64 (a2 + 1))).cell? ⟨bg, j, none⟩ = some (.int .i64 (a2 + 1)) := (KC5.set_ j _).cellv j (set_get _ (by rw [Array.size_setIfInBounds, HCz.out]; exact hlt))
                          go_wp2
                          refine ⟨⟨j + 1, _, by omega, by go_num, KG.far (by show w.heap.size + 1 ≠ bg; omega) _, MM.far (by show bm ≠ bg; omega) _, KD.far (by show bd ≠ bg; omega) _, KC5.set_ j _, ?_, hBw.setCell (by show w.heap.size ≤ bg; omega) _, hGN6⟩, by simp [intOf]; omega⟩
                          rw [set_set]
                          exact HCs.out.step hdj.out hlt
                        · have y8 : decide (8 < a2 + 1) = true := decide_eq_true (by omega)
                          have hr : Hid (grE N t inp (rs.map (·.2.1)) nodes outs = 2) := Lib.hid (by rw [hGN5.out, decide_eq_false h8]; simp)
                          clear hGN5 h8
                          go_wp2
                          go_ret2
                          exact DepPost.err hr.out (by decide) (hBw.setCell (by simp; omega) _)
                      · have z5 : (op == 5) = false := by simpa using h5
                        have E5 : Hid ((if op = 5 then (1 : Int) else 0) = 0) := Lib.hid (if_neg h5)
                        rw [E5.out, Int.add_zero] at hGN5 hdj
                        clear h5
                        by_cases h8 : a2 ≤ 8
                        · have y8 : decide (8 < a2) = false := decide_eq_false (by omega)
                          have hGN6 : Hid (grE N t inp (rs.map (·.2.1)) nodes outs = if nodesGo N t inp rs.length (j + 1) (nodes.drop (j + 1)) && depB ((depsOf nodes).drop (j + 1)) && outsB nodes.length outs then 0 else 2) := Lib.hid (by rw [hGN5.out, decide_eq_true h8, Bool.true_and])
                          clear hGN5 h8
                          go_wp2
                          exact ⟨⟨j + 1, _, by omega, by go_num, KG, MM, KD, KC5, HCs.out.step hdj.out hlt, hBw, hGN6⟩, by simp [intOf]; omega⟩
                        · have y8 : decide (8 < a2) = true := decide_eq_true (by omega)
                          have hr : Hid (grE N t inp (rs.map (·.2.1)) nodes outs = 2) := Lib.hid (by rw [hGN5.out, decide_eq_false h8]; simp)
                          clear hGN5 h8
                          go_wp2
                          go_ret2
                          exact DepPost.err hr.out (by decide) hBw
          · have hr : Hid (grE N t inp (rs.map (·.2.1)) nodes outs = 2) := Lib.hid (by
              rw [G.out, GN.out]
              have : nodeB N t inp rs.length j (op, x1, x2, k) = false := by
                unfold nodeB
                by_cases q1 : 1 ≤ op
                · rw [decide_eq_false (show ¬ op ≤ 10 by omega)]; simp
                · rw [decide_eq_false q1]; simp
              rw [this]; simp)
            clear G GN
            by_cases h1 : op < 1
            · have e1 : decide (op < 1) = true := decide_eq_true h1
              clear hop h1
              go_wp2
              go_ret2
              exact DepPost.err hr.out (by decide) ((hBw.alloc hBw.size _).alloc (Nat.le_trans hBw.size (by simp)) _)
            · have e1 : decide (op < 1) = false := decide_eq_false h1
              have e2 : decide (10 < op) = true := decide_eq_true (by omega)
              clear hop h1
              go_wp2
              go_ret2
              exact DepPost.err hr.out (by decide) ((hBw.alloc hBw.size _).alloc (Nat.le_trans hBw.size (by simp)) _)
        · have GO : Hid (grE N t inp (rs.map (·.2.1)) nodes outs = if outsB nodes.length outs then 0 else 2) := Lib.hid (by
            rw [G.out, List.drop_eq_nil_of_le (by omega), List.drop_eq_nil_of_le (by rw [depsOf_len]; omega)]; rfl)
          have hje : j = nodes.length := by omega
          have hD : Rd wr (some ⟨bg, 0, none⟩) (ints .i64 (depsOf nodes)) := fun m u hu => by
            refine ⟨_, rfl, ?_⟩
            have hm : m < (depsOf nodes).length := by
              rcases Nat.lt_or_ge m (depsOf nodes).length with h | h
              · exact h
              · rw [List.getElem?_eq_none (by simpa [ints] using h)] at hu; cases hu
            have hm' := hm
            rw [depsOf_len] at hm'
            have h1 := hCs.2 m hm'
            rw [if_pos (by omega)] at h1
            have h2 : u = .int .i64 ((depsOf nodes)[m]?.getD 0) := by
              simp only [ints, List.getElem?_map, List.getElem?_eq_getElem hm, Option.map_some, Option.some.injEq] at hu
              rw [← hu, List.getElem?_eq_getElem hm]; rfl
            rw [h2]
            have h3 := KC.cellv m h1
            rcases Nat.eq_zero_or_pos m with h0 | h0
            · subst h0; exact h3
            · simpa [Addr.add, show m ≠ 0 by omega] using h3
          have g3 : wr.cell? ⟨w.heap.size + 1, 3, none⟩ = some (.slice AO outs.length co) := KG.cellv 3 rfl
          have HDr := Lib.hid hD
          have HJ := Lib.hid hje
          clear G hD hCs KC MM hje
          obtain ⟨w6, rfl⟩ : ∃ wo : World, wo = wr := ⟨_, rfl⟩
          go_wp2
          go_loopw [154] (fun x wr => ∃ i : Nat, i ≤ outs.length ∧ x = .int .i64 i ∧ w6 = wr ∧ Hid (grE N t inp (rs.map (·.2.1)) nodes outs = if outsB nodes.length (outs.drop i) then 0 else 2)) (fun x _ => outs.length - (intOf x).toNat)
          case atStart => exact ⟨0, by omega, rfl, rfl, GO⟩
          case round =>
            obtain ⟨m', hm', rfl, rfl, G⟩ := hrel
            clear GO
            by_cases hlt' : m' < outs.length
            · obtain ⟨b, o, rfl, hcell⟩ := (HO.out.below hBw).intx hlt'
              have G3 : Hid (grE N t inp (rs.map (·.2.1)) nodes outs = if (decide (0 ≤ outs[m']) && decide (outs[m'] < nodes.length)) && outsB nodes.length (outs.drop (m' + 1)) then 0 else 2) := Lib.hid (by
                rw [G.out]; unfold outsB; rw [all_drop _ _ _ hlt'])
              clear G
              generalize outs[m'] = dm at *
              by_cases v1 : dm < 0
              · have q : decide (dm < 0) = true := decide_eq_true v1
                have hr : Hid (grE N t inp (rs.map (·.2.1)) nodes outs = 2) := Lib.hid (by rw [G3.out, decide_eq_false (show ¬ 0 ≤ dm by omega)]; simp)
                clear G3 v1
                go_wp2
                go_ret2
                exact DepPost.err hr.out (by decide) hBw
              · have q : decide (dm < 0) = false := decide_eq_false v1
                by_cases v2 : (nodes.length : Int) ≤ dm
                · have q' : decide ((nodes.length : Int) ≤ dm) = true := decide_eq_true v2
                  have hr : Hid (grE N t inp (rs.map (·.2.1)) nodes outs = 2) := Lib.hid (by rw [G3.out, decide_eq_false (show ¬ dm < nodes.length by omega)]; simp)
                  clear G3 v1
                  go_wp2
                  go_ret2
                  exact DepPost.err hr.out (by decide) hBw
                · have q' : decide ((nodes.length : Int) ≤ dm) = false := decide_eq_false v2
                  have G4 : Hid (grE N t inp (rs.map (·.2.1)) nodes outs = if outsB nodes.length (outs.drop (m' + 1)) then 0 else 2) := Lib.hid (by
                    rw [G3.out, decide_eq_true (show 0 ≤ dm by omega), decide_eq_true (show dm < nodes.length by omega)]; simp)
                  clear G3
                  go_wp2
                  exact ⟨⟨m' + 1, by omega, by go_num, by trivial, G4⟩, by simp [intOf]; omega⟩
            · have hr : Hid (grE N t inp (rs.map (·.2.1)) nodes outs = 0) := Lib.hid (by rw [G.out, List.drop_eq_nil_of_le (by omega)]; rfl)
              have dd : w6.cell? ⟨bd, 0, none⟩ = some (.slice (some ⟨bg, 0, none⟩) nodes.length nodes.length) := KD.cellv 0 rfl
              clear G
              go_wp2
              go_ret2
              exact DepPost.ok hr.out HDr.out (Nat.le_refl _) hBw
end Go.Proofs.Ytidlfjaogjpokaa
