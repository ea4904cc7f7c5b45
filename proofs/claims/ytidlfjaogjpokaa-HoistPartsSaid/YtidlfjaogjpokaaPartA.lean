/- The plain half of the law on Groups' parts. -/
import Derived.Test.YtidlfjaogjpokaaHoG
namespace Go.Proofs.Ytidlfjaogjpokaa

theorem addG_keys (gs : List (Int × List Int)) (a i : Int) : (gs.map (·.1)).Nodup → ((addG gs a i).map (·.1)).Nodup ∧ ∀ k ∈ (addG gs a i).map (·.1), k = a ∨ k ∈ gs.map (·.1) := by
  induction gs with
  | nil => intro _; simp [addG]
  | cons g gs ih =>
    obtain ⟨k, l⟩ := g
    intro h
    rw [List.map_cons, List.nodup_cons] at h
    obtain ⟨h1, h2⟩ := ih h.2
    rw [addG]
    split
    · rw [List.map_cons, List.nodup_cons]
      refine ⟨h, fun x hx => ?_⟩
      right
      simpa using hx
    · rename_i hne
      rw [List.map_cons, List.nodup_cons]
      refine ⟨⟨fun hk => ?_, h1⟩, fun x hx => ?_⟩
      · rcases h2 _ hk with e | e
        · exact hne e
        · exact h.1 e
      · rcases List.mem_cons.1 hx with rfl | hx
        · right; simp
        · rcases h2 x hx with e | e
          · exact .inl e
          · right; simp only [List.map_cons]; exact List.mem_cons_of_mem _ e
theorem addG_mem (gs : List (Int × List Int)) (a i : Int) (g : Int × List Int) (hg : g ∈ addG gs a i) : g ∈ gs ∨ g.1 = a ∧ g.2 ≠ [] ∧ ∀ x ∈ g.2, x = i ∨ ∃ g0 ∈ gs, g0.1 = a ∧ x ∈ g0.2 := by
  induction gs with
  | nil =>
    simp [addG] at hg
    subst hg
    right
    simp
  | cons g0 gs ih =>
    obtain ⟨k, l⟩ := g0
    rw [addG] at hg
    split at hg
    · rename_i hk
      rcases List.mem_cons.1 hg with rfl | hg
      · right
        refine ⟨hk, by simp, fun x hx => ?_⟩
        rcases List.mem_append.1 hx with hx | hx
        · right; exact ⟨(k, l), by simp, hk, hx⟩
        · left; simpa using hx
      · left; exact List.mem_cons_of_mem _ hg
    · rcases List.mem_cons.1 hg with rfl | hg
      · left; simp
      · rcases ih hg with h | ⟨h1, h2, h3⟩
        · left; exact List.mem_cons_of_mem _ h
        · right
          refine ⟨h1, h2, fun x hx => ?_⟩
          rcases h3 x hx with e | ⟨g0, hg0, e1, e2⟩
          · exact .inl e
          · exact .inr ⟨g0, List.mem_cons_of_mem _ hg0, e1, e2⟩
theorem addG_flat (gs : List (Int × List Int)) (a i x : Int) : ((addG gs a i).flatMap (·.2)).count x = (gs.flatMap (·.2)).count x + [i].count x := by
  induction gs with
  | nil => simp [addG]
  | cons g gs ih =>
    obtain ⟨k, l⟩ := g
    rw [addG]
    split
    · simp only [List.flatMap_cons, List.count_append]; omega
    · simp only [List.flatMap_cons, List.count_append, ih]; omega
/-- the groups of the first m nodes -/
structure GI (nodes : List Nd) (m : Nat) (gs : List (Int × List Int)) : Prop where
  keys : (gs.map (·.1)).Nodup
  mem : ∀ g ∈ gs, g.2 ≠ [] ∧ ∀ x ∈ g.2, ∃ n : Nat, n < m ∧ x = n ∧ ∃ h : n < nodes.length, nodes[n].2.1 = g.1 ∧ turns nodes[n] = true
  cnt : ∀ n : Nat, (gs.flatMap (·.2)).count (n : Int) = if n < m ∧ nodes[n]?.map turns = some true then 1 else 0
theorem gi_of (nodes : List Nd) (m : Nat) (hm : m ≤ nodes.length) : GI nodes m (grpOf (nodes.take m)) := by
  induction m with
  | zero => exact ⟨by simp [grpOf, grpGo], by simp [grpOf, grpGo], by simp [grpOf, grpGo]⟩
  | succ m ih =>
    have h := ih (by omega)
    have hlt : m < nodes.length := by omega
    rw [grpOf_snoc nodes m hlt]
    by_cases ht : turns nodes[m] = true
    · rw [if_pos ht]
      refine ⟨(addG_keys _ _ _ h.keys).1, fun g hg => ?_, fun n => ?_⟩
      · rcases addG_mem _ _ _ g hg with hg | ⟨h1, h2, h3⟩
        · obtain ⟨a, b⟩ := h.mem g hg
          refine ⟨a, fun x hx => ?_⟩
          obtain ⟨n, hn, e, hl, q1, q2⟩ := b x hx
          exact ⟨n, by omega, e, hl, q1, q2⟩
        · refine ⟨h2, fun x hx => ?_⟩
          rcases h3 x hx with rfl | ⟨g0, hg0, e1, e2⟩
          · exact ⟨m, by omega, rfl, hlt, h1.symm, ht⟩
          · obtain ⟨n, hn, e, hl, q1, q2⟩ := (h.mem g0 hg0).2 x e2
            exact ⟨n, by omega, e, hl, by rw [q1, e1, h1], q2⟩
      · rw [addG_flat, h.cnt n]
        rcases Nat.lt_trichotomy n m with hn | hn | hn
        · have : [(m : Int)].count (n : Int) = 0 := by rw [List.count_eq_zero]; simp; omega
          rw [this, Nat.add_zero]
          have e1 : (n < m ∧ nodes[n]?.map turns = some true) ↔ (n < m + 1 ∧ nodes[n]?.map turns = some true) := ⟨fun a => ⟨by omega, a.2⟩, fun a => ⟨hn, a.2⟩⟩
          simp only [e1]
        · subst hn
          simp [List.getElem?_eq_getElem hlt, ht]
        · have : [(m : Int)].count (n : Int) = 0 := by rw [List.count_eq_zero]; simp; omega
          rw [this]
          rw [if_neg (by omega), if_neg (by omega)]
    · rw [if_neg ht]
      refine ⟨h.keys, fun g hg => ?_, fun n => ?_⟩
      · obtain ⟨a, b⟩ := h.mem g hg
        refine ⟨a, fun x hx => ?_⟩
        obtain ⟨n, hn, e, hl, q1, q2⟩ := b x hx
        exact ⟨n, by omega, e, hl, q1, q2⟩
      · rw [h.cnt n]
        rcases Nat.lt_trichotomy n m with hn | hn | hn
        · have e1 : (n < m ∧ nodes[n]?.map turns = some true) ↔ (n < m + 1 ∧ nodes[n]?.map turns = some true) := ⟨fun a => ⟨by omega, a.2⟩, fun a => ⟨hn, a.2⟩⟩
          simp only [e1]
        · subst hn
          simp [List.getElem?_eq_getElem hlt, ht]
        · rw [if_neg (by omega), if_neg (by omega)]
theorem gi_all (nodes : List Nd) : GI nodes nodes.length (grpOf nodes) := by
  have := gi_of nodes nodes.length (Nat.le_refl _)
  rwa [List.take_length] at this
theorem depsOf_at (l : List Nd) (i : Nat) (h : i < l.length) : (depsOf l)[i]? = some (depOf (depsOf (l.take i)) l[i]) := by
  have h1 : depsOf l = depGo (depsOf (l.take (i + 1))) (l.drop (i + 1)) := by
    unfold depsOf
    rw [← depGo_append, List.take_append_drop]
  have h2 : ∀ (l' : List Nd) (out : List Int) (j : Nat), j < out.length → (depGo out l')[j]? = out[j]? := by
    intro l'
    induction l' with
    | nil => intro out j _; rfl
    | cons x l' ih => intro out j hj; rw [depGo, ih _ j (by simp; omega), List.getElem?_append_left hj]
  rw [h1, h2 _ _ i (by rw [depsOf_len, List.length_take]; omega), depsOf_snoc l i h, List.getElem?_append_right (by rw [depsOf_len, List.length_take]; omega)]
  rw [depsOf_len, List.length_take]
  simp [show i - min i l.length = 0 by omega]
theorem deps_take2 (l : List Nd) (i j : Nat) (h : j < i) (hi : i ≤ l.length) : (depsOf (l.take i))[j]? = (depsOf l)[j]? := by
  rw [depsOf_at l j (by omega), depsOf_at (l.take i) j (by rw [List.length_take]; omega), List.take_take, Nat.min_eq_left (by omega)]
  simp
/-- a node that turns lies at the depth of what it turns -/
theorem turn_depth (l : List Nd) (hR : Refs l) (i : Nat) (h : i < l.length) (ht : turns l[i] = true) : ∃ a : Nat, a < i ∧ l[i].2.1 = a ∧ (depsOf l)[i]? = (depsOf l)[a]? := by
  obtain ⟨r1, r2⟩ := hR i h
  have ho : l[i].1 = 9 ∨ l[i].1 = 10 := by
    unfold turns at ht
    simp at ht
    omega
  have hA : hasA l[i].1 = true := by unfold hasA; simp; omega
  have hB : hasB l[i].1 = false := by unfold hasB; simp; omega
  rw [hA] at r1
  unfold argB at r1
  simp at r1
  refine ⟨l[i].2.1.toNat, by omega, by omega, ?_⟩
  rw [depsOf_at l i h]
  unfold depOf
  rw [hA, hB, if_neg (show ¬ l[i].1 = 5 by omega)]
  simp only [Bool.false_eq_true, if_false, if_true, Int.add_zero]
  have h3 : l[i].2.1.toNat < i := by omega
  have h4 : (depsOf (l.take i))[l[i].2.1.toNat]? = (depsOf l)[l[i].2.1.toNat]? := deps_take2 l i _ h3 (by omega)
  rw [← h4, List.getD_eq_getElem?_getD]
  have h5 : l[i].2.1.toNat < (depsOf (l.take i)).length := by rw [depsOf_len, List.length_take]; omega
  rw [List.getElem?_eq_getElem h5]
  rfl
/-- how often each number below N stands in a list -/
def hist (N : Nat) (P : List Int) : List Int := (List.range N).map fun n : Nat => ((P.count (n : Int) : Nat) : Int)
theorem hist_len (N : Nat) (P : List Int) : (hist N P).length = N := by simp [hist]
theorem hist_at (N : Nat) (P : List Int) (n : Nat) (h : n < N) : (hist N P)[n]? = some ((P.count (n : Int) : Nat) : Int) := by simp [hist, h]
theorem hist_nil (N : Nat) : hist N [] = List.replicate N 0 := by
  apply List.ext_getElem
  · simp [hist]
  · intro i h1 h2; simp [hist]
theorem hist_step (N : Nat) (P : List Int) (n : Nat) (h : n < N) : (hist N P).set n (((P.count (n : Int) : Nat) : Int) + 1) = hist N (P ++ [(n : Int)]) := by
  apply List.ext_getElem
  · simp [hist]
  · intro i h1 h2
    have hi : i < N := by simpa [hist] using h2
    rw [List.getElem_set]
    by_cases e : n = i
    · subst e
      simp [hist]
    · rw [if_neg e]
      have : [(n : Int)].count (i : Int) = 0 := by rw [List.count_eq_zero]; simp; omega
      simp only [hist, List.getElem_map, List.getElem_range, List.count_append, this]
      simp
theorem count_le (P : List Int) (x : Int) : P.count x ≤ P.length := List.count_le_length
/-- what the walk needs of the groups -/
structure Parts (nodes : List Nd) (L : List (List Int)) : Prop where
  small : L.length ≤ nodes.length
  one : ∀ i (hi : i < L.length), 0 < L[i].length ∧ L[i].length ≤ nodes.length ∧ ∃ key : Nat, ∀ j (hj : j < L[i].length), ∃ n : Nat, ∃ hn : n < nodes.length, L[i][j] = n ∧ nodes[n].2.1 = key ∧ key < nodes.length ∧ (depsOf nodes)[n]? = (depsOf nodes)[key]?
  two : ∀ i (hi : i < L.length) j (hj : j < i), ∃ n m : Nat, ∃ hn : n < nodes.length, ∃ hm : m < nodes.length, L[i].headD 0 = n ∧ (L[j]'(by omega)).headD 0 = m ∧ nodes[n].2.1 ≠ nodes[m].2.1
  cnt : ∀ n (h : n < nodes.length), L.flatten.count (n : Int) = if turns nodes[n] = true then 1 else 0
theorem parts_of (nodes : List Nd) (hR : Refs nodes) : Parts nodes ((grpOf nodes).map (·.2)) := by
  have G := gi_all nodes
  have hsh := short_of nodes
  refine ⟨by rw [List.length_map]; exact grpOf_len nodes, fun i hi => ?_, fun i hi j hj => ?_, fun n h => ?_⟩
  · have hi' : i < (grpOf nodes).length := by simpa using hi
    rw [List.getElem_map]
    obtain ⟨h1, h2⟩ := G.mem _ (List.getElem_mem hi')
    have h0 : 0 < (grpOf nodes)[i].2.length := by
      rcases Nat.eq_zero_or_pos (grpOf nodes)[i].2.length with h | h
      · exact absurd (List.eq_nil_of_length_eq_zero h) h1
      · exact h
    refine ⟨h0, hsh _ (List.getElem_mem hi'), ?_⟩
    have key : ∃ a : Nat, (grpOf nodes)[i].1 = a := by
      obtain ⟨n, hn, e, hl, q1, q2⟩ := h2 _ (List.getElem_mem h0)
      obtain ⟨a, _, e2, _⟩ := turn_depth nodes hR n hl q2
      exact ⟨a, by rw [← q1, e2]⟩
    obtain ⟨a, ha⟩ := key
    refine ⟨a, fun j hj => ?_⟩
    obtain ⟨n, hn, e, hl, q1, q2⟩ := h2 _ (List.getElem_mem hj)
    obtain ⟨a', h4, e2, h5⟩ := turn_depth nodes hR n hl q2
    have : a' = a := by rw [q1, ha] at e2; omega
    subst this
    exact ⟨n, hl, e, e2, by omega, h5⟩
  · have hi' : i < (grpOf nodes).length := by simpa using hi
    have hj' : j < (grpOf nodes).length := by omega
    simp only [List.getElem_map]
    have hd : ∀ i (hi' : i < (grpOf nodes).length), ∃ n : Nat, ∃ hn : n < nodes.length, (grpOf nodes)[i].2.headD 0 = n ∧ nodes[n].2.1 = (grpOf nodes)[i].1 := fun i hi' => by
      obtain ⟨h1, h2⟩ := G.mem _ (List.getElem_mem hi')
      cases hl : (grpOf nodes)[i].2 with
      | nil => exact absurd hl h1
      | cons x xs =>
        obtain ⟨n, hn, e, hl', q1, q2⟩ := h2 x (by rw [hl]; simp)
        exact ⟨n, hl', e, q1⟩
    obtain ⟨n, hn, e1, e2⟩ := hd i hi'
    obtain ⟨m, hm, f1, f2⟩ := hd j hj'
    refine ⟨n, m, hn, hm, e1, f1, ?_⟩
    rw [e2, f2]
    have := List.pairwise_iff_getElem.1 G.keys j i (by simpa using hj') (by simpa using hi') hj
    simp only [List.getElem_map] at this
    exact fun e => this e.symm
  · have := G.cnt n
    rw [← List.flatMap_def, this]
    simp [h, List.getElem?_eq_getElem h]
end Go.Proofs.Ytidlfjaogjpokaa
