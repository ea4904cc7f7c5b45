/- A map of lists of ints that grows: m[k] = append(m[k], i). -/
import Derived.Test.YtidlfjaogjpokaaHoC
namespace Go.Proofs.Ytidlfjaogjpokaa
open Go.RowKit Go.Maps Go.ChangeMaps

/-- lists by key, in the order of the keys' first arrival -/
def addG : List (Int × List Int) → Int → Int → List (Int × List Int)
  | [], a, i => [(a, [i])]
  | (k, l) :: gs, a, i => if k = a then (k, l ++ [i]) :: gs else (k, l) :: addG gs a i
theorem addG_new (gs : List (Int × List Int)) (a i : Int) (h : ∀ g ∈ gs, g.1 ≠ a) : addG gs a i = gs ++ [(a, [i])] := by
  induction gs with
  | nil => rfl
  | cons g gs ih =>
    obtain ⟨k, l⟩ := g
    rw [addG, if_neg (h (k, l) (by simp)), ih fun g hg => h g (by simp [hg])]
    rfl
theorem addG_old (gs : List (Int × List Int)) (a i : Int) : ∀ j (hj : j < gs.length), gs[j].1 = a → (∀ i' (h' : i' < gs.length), i' ≠ j → gs[i'].1 ≠ a) → addG gs a i = gs.set j (a, gs[j].2 ++ [i]) := by
  induction gs with
  | nil => intro j hj; simp at hj
  | cons g gs ih =>
    intro j hj ha hu
    obtain ⟨k, l⟩ := g
    cases j with
    | zero =>
      simp only [List.getElem_cons_zero] at ha
      rw [addG, if_pos ha]; simp [ha]
    | succ j =>
      have h0 : k ≠ a := hu 0 (by simp) (by omega)
      rw [addG, if_neg h0]
      simp only [List.getElem_cons_succ] at ha ⊢
      rw [ih j (by simpa using hj) ha (fun i' h' hne => by
        have := hu (i' + 1) (by simpa using h') (by omega)
        simpa using this)]
      rfl

theorem mapb_upd {P : Program} {t k e : TypeId} (hk : P.underlying k = some (.int .i64)) (ht : P.underlying t = some (.map k e)) {w : World} {b clock : Nat} {es : List MapEntry} (h : MapB w b es clock) (hes : IntKeys es)
    (a : Int) (h0 : -9223372036854775808 ≤ a) (h1 : a ≤ 9223372036854775807) (j : Nat) (hj : j < es.length) (hja : es[j].key = .int .i64 a) (hu : ∀ i (hi : i < es.length), i ≠ j → es[i].key ≠ .int .i64 a) (v : Value) :
    ∃ w', (Instr.mapUpdate t (.map (some b)) (.int .i64 a) v).run P w = .ok () w' ∧ MapB w' b (es.set j { es[j] with key := .int .i64 a, val := v }) clock ∧ w.grownBy w' (some b) := by
  have K := int_keyed hk
  obtain ⟨l, hl⟩ := int_key P k hk a h0 h1
  have hkeys : ∀ x ∈ es, ∃ l, keyOf P k x.key = some l := fun x hx => by
    obtain ⟨c, ⟨c0, c1⟩, hc⟩ := hes x hx
    rw [hc]; exact int_key P k hk c c0 c1
  unfold MapB at h
  have hlt : b < w.heap.size := by
    rcases Nat.lt_or_ge b w.heap.size with hlt | hge
    · exact hlt
    · rw [Array.getElem?_eq_none hge] at h; cases h
  rcases K.find w hl es hkeys with ⟨f1, f2⟩ | ⟨j', e0, f1, f2, f3⟩
  · exact absurd hja (f2 _ (List.getElem_mem hj))
  · have hj' : j' < es.length := (List.getElem?_eq_some_iff.1 f2).1
    have e0' : es[j'] = e0 := (List.getElem?_eq_some_iff.1 f2).2
    have hjj : j' = j := by
      rcases Nat.decEq j' j with h2 | h2
      · exact absurd (by rw [e0']; exact f3) (hu j' hj' h2)
      · exact h2
    subst hjj
    have hja' : (es.toArray)[j']? = some e0 := by simpa using f2
    refine ⟨setBlock w b (.map (es.toArray.modify j' (fun e' => { e' with key := .int .i64 a, val := v })) clock), ?_, ?_, ?_⟩
    · simp [Instr.mapUpdate, run_underlying ht, MapKept.run_getObj_map h, K.check w false hl, f1, f2, f3, K.stays w hl, MapKept.run_setObj_map _ h, Result.andThen, setBlock]
    · show (setBlock w b _).heap[b]? = _
      have e1 : es.toArray.modify j' (fun e' => { e' with key := .int .i64 a, val := v }) = (es.set j' { es[j'] with key := .int .i64 a, val := v }).toArray := by
        apply Array.ext'
        rw [Array.toList_modify, modify_eq_set _ _ _ _ f2, e0']
      rw [e1]
      simp [setBlock, hlt]
    · refine ⟨rfl, rfl, rfl, by simp [setBlock], fun k hk hne2 => ?_⟩
      have : b ≠ k := fun e => hne2 (by rw [e])
      simp [setBlock, this]

/-- block b is a map of these lists; each list owns a row of its own -/
structure GrpM (w : World) (base b : Nat) (es : List MapEntry) (gs : List (Int × List Int)) : Prop where
  map : MapB w b es es.length
  born : BornOk es es.length
  len : es.length = gs.length
  ent : ∀ j (h : j < es.length) (h' : j < gs.length), es[j].key = .int .i64 gs[j].1 ∧ (-9223372036854775808 ≤ gs[j].1 ∧ gs[j].1 ≤ 9223372036854775807) ∧ w.ownsRow base 3 1 es[j].val gs[j].2.length (ints .i64 gs[j].2) ∧ 0 < gs[j].2.length
  keys : ∀ i j (hi : i < gs.length) (hj : j < gs.length), i ≠ j → gs[i].1 ≠ gs[j].1
  far : ∀ i j (hi : i < es.length) (hj : j < es.length), i ≠ j → es[i].val.ownBlock ≠ es[j].val.ownBlock
  bb : b < base
section
variable {w w' : World} {base b : Nat} {es : List MapEntry} {gs : List (Int × List Int)}
theorem GrpM.ik (h : GrpM w base b es gs) : IntKeys es := fun x hx => by
  obtain ⟨j, hj, rfl⟩ := List.getElem_of_mem hx
  obtain ⟨h1, h2, _⟩ := h.ent j hj (by rw [← h.len]; exact hj)
  exact ⟨_, h2, h1⟩
theorem GrpM.keep (h : GrpM w base b es gs) (hb : Below w.heap.size w w') : GrpM w' base b es gs := by
  refine ⟨h.map.keep hb, h.born, h.len, fun j h1 h2 => ?_, h.keys, h.far, h.bb⟩
  obtain ⟨e1, e2, e3, e4⟩ := h.ent j h1 h2
  refine ⟨e1, e2, e3.kept (row := none) ?_ (.inr ?_), e4⟩
  · exact ⟨hb.os, hb.tape, hb.output, hb.size, fun k hk _ => hb.block k hk⟩
  · obtain ⟨g, cap, e5, _, _⟩ := e3.form e4
    rw [e5]; simp [Value.ownBlock]
theorem GrpM.new (w : World) : GrpM (w.alloc (.map #[] 0)) (w.heap.size + 1) w.heap.size [] [] :=
  ⟨MapB.new w, ⟨rfl, fun j h => by simp at h⟩, rfl, fun j h => by simp at h, fun i j h => by simp at h, fun i j h => by simp at h, Nat.lt_succ_self _⟩
theorem zero_slint (w : World) : (zeroValue 28).run Try.prog w = .ok (.slice none 0 0) w := by kernel_rfl
/-- the list at a key -/
def atG (gs : List (Int × List Int)) (a : Int) : List Int := ((gs.find? fun g => g.1 == a).map (·.2)).getD []
theorem GrpM.look (h : GrpM w base b es gs) (a : Int) (h0 : -9223372036854775808 ≤ a) (h1 : a ≤ 9223372036854775807) :
    ∃ v, (∀ w', MapB w' b es es.length → (Instr.lookup 50 (.map (some b)) (.int .i64 a) false).run Try.prog w' = .ok v w') ∧
      ((∃ j, ∃ (hj : j < es.length) (hj' : j < gs.length), gs[j].1 = a ∧ v = es[j].val) ∨ ((∀ g ∈ gs, g.1 ≠ a) ∧ v = .slice none 0 0)) := by
  by_cases hex : ∃ j, ∃ (hj : j < es.length) (hj' : j < gs.length), gs[j].1 = a
  · obtain ⟨j, hj, hj', ha⟩ := hex
    refine ⟨es[j].val, fun w' hw' => ?_, .inl ⟨j, hj, hj', ha, rfl⟩⟩
    obtain ⟨e1, _⟩ := h.ent j hj hj'
    refine mapb_get Try.underlying3 Try.underlying50 (zero_slint w') hw' h.ik a h0 h1 _ (.inl ⟨es[j], List.getElem_mem hj, by rw [e1, ha], rfl, fun y hy hya => ?_⟩)
    obtain ⟨i, hi, rfl⟩ := List.getElem_of_mem hy
    rcases Nat.decEq i j with hne | rfl
    · have e2 := (h.ent i hi (by rw [← h.len]; exact hi)).1
      rw [hya] at e2
      injection e2 with _ e2
      exact absurd (e2.symm.trans ha.symm) (h.keys i j (by rw [← h.len]; exact hi) hj' hne)
    · rfl
  · refine ⟨.slice none 0 0, fun w' hw' => ?_, .inr ⟨fun g hg hga => ?_, rfl⟩⟩
    · refine mapb_get Try.underlying3 Try.underlying50 (zero_slint w') hw' h.ik a h0 h1 _ (.inr ⟨fun x hx hxa => ?_, rfl⟩)
      obtain ⟨i, hi, rfl⟩ := List.getElem_of_mem hx
      have hi' : i < gs.length := by rw [← h.len]; exact hi
      have e2 := (h.ent i hi hi').1
      rw [hxa] at e2
      injection e2 with _ e2
      exact hex ⟨i, hi, hi', e2.symm⟩
    · obtain ⟨j, hj, rfl⟩ := List.getElem_of_mem hg
      exact hex ⟨j, by rw [h.len]; exact hj, hj, hga⟩
/-- what the list at the key is, and whose row -/
def LookG (gs : List (Int × List Int)) (es : List MapEntry) (a : Int) (v : Value) (l : List Int) : Prop :=
  (∃ j, ∃ (hj : j < es.length) (hj' : j < gs.length), gs[j].1 = a ∧ v = es[j].val ∧ l = gs[j].2) ∨ ((∀ g ∈ gs, g.1 ≠ a) ∧ v = .slice none 0 0 ∧ l = [])
theorem GrpM.look2 (h : GrpM w base b es gs) (a : Int) (h0 : -9223372036854775808 ≤ a) (h1 : a ≤ 9223372036854775807) :
    ∃ v l, (∀ w', MapB w' b es es.length → (Instr.lookup 50 (.map (some b)) (.int .i64 a) false).run Try.prog w' = .ok v w') ∧ LookG gs es a v l ∧ w.ownsRow base 3 1 v l.length (ints .i64 l) := by
  obtain ⟨v, hv, ⟨j, hj, hj', ha, rfl⟩ | ⟨hno, rfl⟩⟩ := h.look a h0 h1
  · exact ⟨_, gs[j].2, hv, .inl ⟨j, hj, hj', ha, rfl, rfl⟩, (h.ent j hj hj').2.2.1⟩
  · exact ⟨_, [], hv, .inr ⟨hno, rfl, rfl⟩, ⟨rfl, .inl ⟨rfl, rfl⟩⟩⟩
theorem GrpM.step (h : GrpM w base b es gs) (hbase : base ≤ w.heap.size) (a : Int) (h0 : -9223372036854775808 ≤ a) (h1 : a ≤ 9223372036854775807) {v v' : Value} {l : List Int} (hl : LookG gs es a v l) (i : Int) {w1 : World}
    (hg : w.grownBy w1 v.ownBlock) (hown : w1.ownsRow base 3 1 v' (l.length + 1) (ints .i64 (l ++ [i]))) (hloc : v'.ownBlock = v.ownBlock ∨ ∃ g, v'.ownBlock = some g ∧ w.heap.size ≤ g) :
    ∃ w2 es', (Instr.mapUpdate 50 (.map (some b)) (.int .i64 a) v').run Try.prog w1 = .ok () w2 ∧ GrpM w2 base b es' (addG gs a i) ∧ w1.grownBy w2 (some b) := by
  have hvb : ∀ (w : World) (v : Value) (n : Nat) (xs : List Value), w.ownsRow base 3 1 v n xs → v.ownBlock ≠ some b := fun w v n xs ho e => by
    have := (ho.lt b e).1
    have := h.bb; omega
  have hkeyne : ∀ i j (hi : i < es.length) (hj : j < es.length), i ≠ j → es[i].key ≠ es[j].key := fun i j hi hj hne e => by
    have e1 := (h.ent i hi (by rw [← h.len]; exact hi)).1
    have e2 := (h.ent j hj (by rw [← h.len]; exact hj)).1
    rw [e1, e2] at e
    injection e with _ e
    exact h.keys i j (by rw [← h.len]; exact hi) (by rw [← h.len]; exact hj) hne e
  rcases hl with ⟨j, hj, hj', ha, rfl, rfl⟩ | ⟨hno, rfl, rfl⟩
  · obtain ⟨e1, e2, e3, e4⟩ := h.ent j hj hj'
    have hM1 : MapB w1 b es es.length := h.map.grown hg (fun e => hvb w _ _ _ e3 e.symm)
    obtain ⟨w2, hrun, hM2, hg2⟩ := mapb_upd Try.underlying3 Try.underlying50 hM1 h.ik a h0 h1 j hj (by rw [e1, ha]) (fun i' hi' hne e => hkeyne i' j hi' hj hne (by rw [e, e1, ha])) v'
    refine ⟨w2, es.set j { es[j] with key := .int .i64 a, val := v' }, hrun, ⟨by rw [List.length_set]; exact hM2, ⟨rfl, fun m hm => ?_⟩, ?_, fun m hm hm' => ?_, fun i' j' hi hj2 hne => ?_, fun i' j' hi hj2 hne => ?_, h.bb⟩, hg2⟩
    · have hm0 : m < es.length := by simpa using hm
      rw [List.getElem_set]
      split
      · rename_i e; subst e; exact h.born.2 _ hj
      · exact h.born.2 m hm0
    · rw [addG_old gs a i j hj' ha (fun i' h' hne e => h.keys i' j h' hj' hne (by rw [e, ha]))]; simp [h.len]
    · have hm0 : m < es.length := by simpa using hm
      have hm1 : m < gs.length := by rw [← h.len]; exact hm0
      have ea := addG_old gs a i j hj' ha (fun i' h' hne e => h.keys i' j h' hj' hne (by rw [e, ha]))
      simp only [ea]
      rw [List.getElem_set, List.getElem_set]
      by_cases e : j = m
      · subst e
        rw [if_pos rfl, if_pos rfl]
        refine ⟨rfl, ⟨h0, h1⟩, ?_, by simp⟩
        simp only [List.length_append, List.length_singleton]
        exact hown.kept hg2 (.inr (hvb _ _ _ _ hown))
      · rw [if_neg e, if_neg e]
        obtain ⟨x1, x2, x3, x4⟩ := h.ent m hm0 hm1
        refine ⟨x1, x2, ?_, x4⟩
        exact (x3.kept hg (.inr (h.far m j hm0 hj (fun e' => e e'.symm)))).kept hg2 (.inr (hvb _ _ _ _ x3))
    · have ea := addG_old gs a i j hj' ha (fun i' h' hne e => h.keys i' j h' hj' hne (by rw [e, ha]))
      have hi' : i' < gs.length := by rw [ea] at hi; simpa using hi
      have hj2' : j' < gs.length := by rw [ea] at hj2; simpa using hj2
      simp only [ea]
      rw [List.getElem_set, List.getElem_set]
      have := h.keys i' j' hi' hj2' hne
      by_cases e : j = i'
      · subst e
        rw [if_pos rfl, if_neg (by omega)]
        exact fun e => this (ha.trans e)
      · rw [if_neg e]
        by_cases e' : j = j'
        · subst e'
          rw [if_pos rfl]
          exact fun e => this (e.trans ha.symm)
        · rw [if_neg e']; exact this
    · have hi' : i' < es.length := by simpa using hi
      have hj2' : j' < es.length := by simpa using hj2
      rw [List.getElem_set, List.getElem_set]
      have hold : ∀ m (hm : m < es.length), m ≠ j → es[m].val.ownBlock ≠ v'.ownBlock := fun m hm hne e => by
        rcases hloc with h2 | ⟨g, h2, h3⟩
        · rw [h2] at e; exact h.far m j hm hj hne e
        · have x3 := (h.ent m hm (by rw [← h.len]; exact hm)).2.2.1
          rw [h2] at e
          have := (x3.lt g e).2
          omega
      by_cases e : j = i'
      · subst e
        rw [if_pos rfl, if_neg (by omega)]
        exact fun e => hold j' hj2' (by omega) e.symm
      · rw [if_neg e]
        by_cases e' : j = j'
        · subst e'
          rw [if_pos rfl]
          exact hold i' hi' (by omega)
        · rw [if_neg e']; exact h.far i' j' hi' hj2' hne
  · have hM1 : MapB w1 b es es.length := h.map.grown hg (by simp [Value.ownBlock])
    have hfresh : ∀ x ∈ es, x.key ≠ .int .i64 a := fun x hx e => by
      obtain ⟨m, hm, rfl⟩ := List.getElem_of_mem hx
      have hm' : m < gs.length := by rw [← h.len]; exact hm
      have e1 := (h.ent m hm hm').1
      rw [e] at e1
      injection e1 with _ e1
      exact hno _ (List.getElem_mem hm') e1.symm
    obtain ⟨w2, hrun, hM2, hg2⟩ := mapb_put Try.underlying3 Try.underlying50 hM1 h.ik a h0 h1 hfresh v'
    have ea := addG_new gs a i hno
    rw [ea]
    refine ⟨w2, es ++ [⟨.int .i64 a, v', es.length⟩], hrun, ⟨by rw [List.length_append]; exact hM2, ⟨rfl, fun m hm => ?_⟩, by simp [h.len], fun m hm hm' => ?_, fun i' j' hi hj2 hne => ?_, fun i' j' hi hj2 hne => ?_, h.bb⟩, hg2⟩
    · rcases Nat.lt_or_ge m es.length with h2 | h2
      · rw [List.getElem_append_left h2]; exact h.born.2 m h2
      · rw [List.getElem_append_right h2]
        simp at hm ⊢
        omega
    · rcases Nat.lt_or_ge m es.length with h2 | h2
      · have h2' : m < gs.length := by rw [← h.len]; exact h2
        rw [List.getElem_append_left h2, List.getElem_append_left h2']
        obtain ⟨x1, x2, x3, x4⟩ := h.ent m h2 h2'
        exact ⟨x1, x2, (x3.kept hg (by right; obtain ⟨g, cap, e5, _, _⟩ := x3.form x4; rw [e5]; simp [Value.ownBlock])).kept hg2 (.inr (hvb _ _ _ _ x3)), x4⟩
      · have hme : m = es.length := by simp at hm; omega
        subst hme
        rw [List.getElem_append_right (Nat.le_refl _), List.getElem_append_right (by rw [h.len]; exact Nat.le_refl _)]
        simp only [Nat.sub_self, h.len, List.getElem_cons_zero]
        refine ⟨by first | rfl | trivial, ⟨h0, h1⟩, ?_, by simp⟩
        have := hown.kept hg2 (.inr (hvb _ _ _ _ hown))
        simpa using this
    · have hold : ∀ m (hm : m < gs.length), gs[m].1 ≠ a := fun m hm => hno _ (List.getElem_mem hm)
      have l1 : (gs ++ [(a, [i])]).length = gs.length + 1 := by simp
      rw [l1] at hi hj2
      rw [List.getElem_append, List.getElem_append]
      by_cases c1 : i' < gs.length
      · rw [dif_pos c1]
        by_cases c2 : j' < gs.length
        · rw [dif_pos c2]; exact h.keys i' j' c1 c2 hne
        · rw [dif_neg c2]
          have : j' - gs.length = 0 := by omega
          simp only [this, List.getElem_cons_zero]
          exact hold i' c1
      · rw [dif_neg c1]
        have c3 : i' - gs.length = 0 := by omega
        by_cases c2 : j' < gs.length
        · rw [dif_pos c2]
          simp only [c3, List.getElem_cons_zero]
          exact fun e => hold j' c2 e.symm
        · omega
    · have hold : ∀ m (hm : m < es.length), es[m].val.ownBlock ≠ v'.ownBlock := fun m hm e => by
        obtain ⟨x1, x2, x3, x4⟩ := h.ent m hm (by rw [← h.len]; exact hm)
        obtain ⟨g0, cap, e5, _, _⟩ := x3.form x4
        rcases hloc with h2 | ⟨g, h2, h3⟩
        · rw [h2, e5] at e; simp [Value.ownBlock] at e
        · rw [h2] at e
          have := (x3.lt g e).2
          omega
      have l1 : (es ++ [(⟨.int .i64 a, v', es.length⟩ : MapEntry)]).length = es.length + 1 := by simp
      rw [l1] at hi hj2
      rw [List.getElem_append, List.getElem_append]
      by_cases c1 : i' < es.length
      · rw [dif_pos c1]
        by_cases c2 : j' < es.length
        · rw [dif_pos c2]; exact h.far i' j' c1 c2 hne
        · rw [dif_neg c2]
          have : j' - es.length = 0 := by omega
          simp only [this, List.getElem_cons_zero]
          exact hold i' c1
      · rw [dif_neg c1]
        have c3 : i' - es.length = 0 := by omega
        by_cases c2 : j' < es.length
        · rw [dif_pos c2]
          simp only [c3, List.getElem_cons_zero]
          exact fun e => hold j' c2 e.symm
        · omega
end
end Go.Proofs.Ytidlfjaogjpokaa
