/- The walk of sorted. -/
import Derived.Test.YtidlfjaogjpokaaHoE
import Derived.Sort.Grow
namespace Go.Proofs.Ytidlfjaogjpokaa
open Go.RowKit Go.Maps Go.ChangeMaps Go.Shelf Go.Lib Go.Sort

section
variable {α : Type} [Inhabited α] (enc : α → Value)
theorem holdsG {w : World} {g : Nat} {cur : Array Value} {e : TypeId} {d : Array α} (hb : w.heap[g]? = some (.cells cur e (0, 0))) (ht : cur.toList.take d.size = d.toList.map enc) : Holds enc w g 0 d := by
  intro j hj
  refine ⟨?_, by simp [World.frozen?, hb]⟩
  have h1 : (cur.toList.take d.size)[j]? = (d.toList.map enc)[j]? := by rw [ht]
  rw [List.getElem?_take_of_lt hj] at h1
  simp only [World.cell?, hb, Nat.zero_add]
  simp only [Option.isSome_none, Bool.false_eq_true, if_false]
  rw [← Array.getElem?_toList, h1]
  simp [hj]
theorem heapG {w : World} {g n : Nat} {os : Array Obj} {cur : Array Value} {e : TypeId} {fr : Nat × Nat} (d : Array α) (hb : w.heap[g]? = some (.cells cur e fr)) :
    (sortWorld enc w g 0 n d os).heap[g]? = some (.cells (putCells enc 0 d cur) e fr) := by
  have hg : g < w.heap.size := (Array.getElem?_eq_some_iff.1 hb).1
  unfold sortWorld
  rw [heap_grow_old _ _ (by simpa using hg)]
  simp [putRow, mapBlock, Sort.ahead, Array.getElem?_modify, hb, onCells]
theorem grownG {w : World} {g n : Nat} {os : Array Obj} (d : Array α) : w.grownBy (sortWorld enc w g 0 n d os) (some g) := by
  unfold sortWorld
  refine ⟨rfl, rfl, rfl, by simp, fun k hk hne => ?_⟩
  rw [heap_grow_old _ _ (by simpa using hk)]
  have : g ≠ k := fun e => hne (by rw [e])
  simp [putRow, mapBlock, Sort.ahead, Array.getElem?_modify, this]
theorem takeG (cur : Array Value) (d : Array α) (h : d.size ≤ cur.size) : (putCells enc 0 d cur).toList.take d.size = d.toList.map enc := by
  apply List.ext_getElem?
  intro j
  by_cases hj : j < d.size
  · rw [List.getElem?_take_of_lt hj, Array.getElem?_toList]
    simp [putCells, hj, show j < cur.size by omega]
  · rw [List.getElem?_take_eq_none (by omega), List.getElem?_eq_none (by simp; omega)]
theorem ownsG {w : World} {base g cap n : Nat} {e : TypeId} {os : Array Obj} {cur : Array Value} {d : Array α} {m : Nat} (hl : d.size = m) (hbase : base ≤ g) (hb : w.heap[g]? = some (.cells cur e (0, 0)))
    (h1 : m ≤ cap) (h2 : cap ≤ maxLen) (h3 : cur.size = cap * 1) :
    (sortWorld enc w g 0 n d os).ownsRow base e 1 (.slice (some ⟨g, 0, none⟩) m cap) m (d.toList.map enc) :=
  ⟨by simp [hl], .inr ⟨g, cap, _, rfl, hbase, heapG enc _ hb, h1, h2, by simp [putCells, h3], by rw [Nat.mul_one, ← hl]; exact takeG enc cur d (by omega)⟩⟩
end

/-- a sorted list and a strictly sorted one with the same members are one -/
theorem sorted_eq {α : Type} (f : α → Int) : ∀ (xs ys : List α), xs.Perm ys → ys.Pairwise (fun a b => f a < f b) → xs.Pairwise (fun a b => ¬ f b < f a) → xs = ys := by
  intro xs
  induction xs with
  | nil => intro ys h _ _; exact (List.nil_perm.1 h).symm
  | cons x xs ih =>
    intro ys h hy hx
    cases ys with
    | nil => exact absurd h.length_eq (by simp)
    | cons y ys =>
      obtain ⟨hx1, hx2⟩ := List.pairwise_cons.1 hx
      obtain ⟨hy1, hy2⟩ := List.pairwise_cons.1 hy
      have e : x = y := by
        have m1 : x ∈ y :: ys := h.subset (by simp)
        have m2 : y ∈ x :: xs := h.symm.subset (by simp)
        rcases List.mem_cons.1 m1 with h1 | h1
        · exact h1
        · have h2 := hy1 x h1
          rcases List.mem_cons.1 m2 with h3 | h3
          · exact h3.symm
          · exact absurd h2 (hx1 y h3)
      subst e
      rw [ih ys (List.perm_cons x |>.1 h) hy2 hx2]

set_option maxRecDepth 100000 in
set_option maxHeartbeats 2000000 in
theorem sorted_any (w : World) (base : Nat) (v : Value) (xs ys : List SlV) (hown : w.ownsRow base 28 1 v xs.length (xs.map slV)) (hel : ∀ s ∈ xs, ∀ g, v.ownBlock = some g → ElOk w g s) (hlen : xs.length ≤ 100000) (hperm : xs.Perm ys) (hys : ys.Pairwise fun a b => keyS w a < keyS w b) :
    Calls Try.prog 15 #[v] w fun e w' => e = .returned v ∧ w'.ownsRow base 28 1 v ys.length (ys.map slV) ∧ w.grownBy w' v.ownBlock := by
  rcases Nat.eq_zero_or_pos xs.length with h0 | h0
  · have hx : xs = [] := List.eq_nil_of_length_eq_zero h0
    subst hx
    have hy : ys = [] := (List.nil_perm.1 hperm)
    subst hy
    obtain ⟨p, c, rfl, _, _⟩ := own_rd hown
    have hS := fun W => AnyF.slices_SortFunc_none (P := Try.prog) (ρ := sortL_ren) { sortL with } p c (.func (.func 26) #[] #[]) W
    change ∀ W, Calls Try.prog 25 _ _ _ at hS
    have HO := Lib.hid hown
    clear hown hel hperm hys
    simp only [List.length_nil]
    go_enter Try.func15, Try.ntmps15
    go_wp2_with (go_at_call 25; refine (hS _).mono ?_; rintro e w' ⟨rfl, rfl⟩)
    go_ret
    exact ⟨rfl, HO.out, World.grownBy.refl _ _⟩
  · rcases hown.2 with ⟨_, h1⟩ | ⟨g, cap, cur, rfl, hbg, hb, h1, h2, h3, h4⟩
    · omega
    · have hg : g < w.heap.size := (Array.getElem?_eq_some_iff.1 hb).1
      have hel' : ∀ s ∈ xs, ElOk w g s := fun s hs => hel s hs g rfl
      obtain ⟨x0, hx0⟩ : ∃ x0, x0 ∈ xs := ⟨xs[0], List.getElem_mem h0⟩
      haveI : Inhabited (El w g) := ⟨⟨x0, hel' x0 hx0⟩⟩
      obtain ⟨d, hd⟩ : ∃ d : Array (El w g), d.toList.map Subtype.val = xs := by
        refine ⟨(xs.pmap (fun s h => (⟨s, h⟩ : El w g)) hel').toArray, ?_⟩
        show List.map Subtype.val (xs.pmap (fun s h => (⟨s, h⟩ : El w g)) hel') = xs
        rw [List.map_pmap]
        simp
      have hds : d.size = xs.length := by rw [← hd]; simp
      have henc : d.toList.map encE = xs.map slV := by rw [← hd, List.map_map]; rfl
      have hH : Holds (encE (w := w) (blk := g)) w g 0 d := holdsG encE hb (by rw [hds, henc]; simpa using h4)
      have eg : ∀ args w, (callFunc 26 args).run Try.prog w = .ok (.enter 26 args) w := enters_of Try.func26 (by kernel_rfl) rfl
      have hcon := Any.slices_SortFunc sortL (encE (w := w) (blk := g)) (fun _ => rfl) cfE (swoE w g) 26 #[] g 0 cap d w eg (readsE w g 0 d.size).lays hH hg (by omega)
      change Calls Try.prog 25 _ _ _ at hcon
      rw [hds] at hcon
      have HP := Lib.hid hperm
      have HY := Lib.hid hys
      have HB := Lib.hid hb
      have HD := Lib.hid hd
      have HDS := Lib.hid hds
      have HCON := Lib.hid hcon
      clear hown hel hel' hperm hys hH henc hb hd hds hcon eg
      go_enter Try.func15, Try.ntmps15
      go_wp2_with (go_at_call 25; refine HCON.out.mono ?_; rintro e w' ⟨rfl, d', n, os, hp, hs, rfl⟩)
      go_ret
      have hsz : d'.size = xs.length := by rw [hp.1, HDS.out]
      have hlist : d'.toList.map Subtype.val = ys := by
        refine sorted_eq (keyS w) _ _ ?_ HY.out ?_
        · refine List.Perm.trans ?_ HP.out
          rw [← HD.out]
          have h5 := hp.2.2
          have e1 : d'.extract 0 xs.length = d' := by rw [← hsz]; simp
          have e2 : d.extract 0 xs.length = d := by rw [← HDS.out]; simp
          rw [e1, e2] at h5
          exact h5.map _
        · rw [List.pairwise_map, List.pairwise_iff_getElem]
          intro i j hi hj hij
          have h6 := hs i j (Nat.zero_le _) hij (by simpa [hsz] using hj)
          rw [ltE] at h6
          have hi' : i < d'.size := by simpa using hi
          have hj' : j < d'.size := by simpa using hj
          rw [getElem!_pos d' i hi', getElem!_pos d' j hj'] at h6
          simpa using h6
      have hyl : ys.length = xs.length := HP.out.length_eq.symm
      refine ⟨rfl, ?_, grownG _ _⟩
      have h7 := ownsG (encE (w := w) (blk := g)) (os := os) (n := n) (base := base) hsz hbg HB.out h1 h2 h3
      rw [hyl, ← hlist, List.map_map]
      exact h7
end Go.Proofs.Ytidlfjaogjpokaa
