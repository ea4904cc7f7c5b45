/- The values of a map come one by one, in some order; a slice collects them. -/
import Derived.Test.YtidlfjaogjpokaaMap
import Derived.Maps.RangeRun
import Derived.Maps.OwnIn
import Derived.RangeFuncBox
import Derived.RangeFuncLeaves
import Derived.RangeFuncNested
import Derived.RangeFuncBound
import Derived.RangeFuncCalls
import Derived.Shelf.Abstract
import Derived.OwnWalkIn
import Derived.TacticsInMore
import Derived.LoopNIn
import Derived.LoopIn
import Derived.Maps.AppendAt
namespace Go.Proofs.Ytidlfjaogjpokaa
open Go.RowKit Go.Maps Go.ChangeMaps Go.Shelf

/-- a slice value -/
abbrev SlV := Option Addr × Nat × Nat
def slV (x : SlV) : Value := .slice x.1 x.2.1 x.2.2

/-- the entries bear the stamps 0, 1, 2 .. -/
def BornOk (es : List MapEntry) (clock : Nat) : Prop := clock = es.length ∧ ∀ j (h : j < es.length), es[j].born = j
/-- an iterator over the map b, in block r, that has handed out these stamps -/
def IterB (w : World) (r b since : Nat) (seen : Array Nat) : Prop := ∃ c0, since ≤ c0 ∧ w.heap[r]? = some (.mapIter (some b) since seen c0)

def NoneLeft (es : List MapEntry) (seen : Array Nat) : Prop := (es.filter fun e => !seen.contains e.born) = []
def Unseen (seen : Array Nat) (x : MapEntry) : Prop := seen.contains x.born = false
theorem perm_pick {es : List MapEntry} (hb : es.Pairwise fun x y => x.born ≠ y.born) {e : MapEntry} (he : e ∈ es) (p : MapEntry → Bool) (hp : p e = true) :
    (e :: es.filter fun x => p x && !(x.born == e.born)).Perm (es.filter p) := by
  induction es with
  | nil => simp at he
  | cons a l ih =>
    obtain ⟨h1, h2⟩ := List.pairwise_cons.1 hb
    rcases List.mem_cons.1 he with rfl | he'
    · have h3 : l.filter (fun x => p x && !(x.born == e.born)) = l.filter p := by
        apply List.filter_congr
        intro x hx
        have := h1 x hx
        have : (x.born == e.born) = false := by simpa using fun h => this h.symm
        rw [this]; simp
      simp [List.filter_cons, hp, h3]
    · have h3 := h1 e he'
      have h4 : (a.born == e.born) = false := by simpa using h3
      have := ih h2 he'
      by_cases h5 : p a = true
      · simp only [List.filter_cons, h5, h4, Bool.not_false, Bool.and_self, if_true]
        exact (List.Perm.swap _ _ _).trans (this.cons a)
      · simp only [List.filter_cons, h5, Bool.false_and, if_false, Bool.false_eq_true]
        exact this
theorem born_pw {es : List MapEntry} {clock : Nat} (h : BornOk es clock) : es.Pairwise fun x y => x.born ≠ y.born := by
  rw [List.pairwise_iff_getElem]
  intro i j hi hj hij
  rw [h.2 i hi, h.2 j hj]
  omega
theorem born_nodup {es : List MapEntry} {clock : Nat} (h : BornOk es clock) : (es.map (·.born)).Nodup := by
  unfold List.Nodup
  rw [List.pairwise_map]
  exact born_pw h
theorem born_lt {es : List MapEntry} {clock : Nat} (h : BornOk es clock) : ∀ x ∈ es, x.born < clock := fun x hx => by
  obtain ⟨j, hj, rfl⟩ := List.getElem_of_mem hx
  rw [h.2 j hj, h.1]; exact hj
theorem leftOf_list (es : List MapEntry) (seen : Array Nat) : (leftOf es.toArray seen).toList = es.filter fun e => !seen.contains e.born := by
  simp [leftOf]
section
variable {F : Fence} {nF : Nat} {P : Program} {w : World} {ops : Array Oper} {rest : List Oper} {o : Oper} {a : Act} {Q : Exit → Act → World → Prop}
theorem wpListIn_range_b (hg : o.guard = none) (m : Operand) (t : TypeId) (hop : o.op = Op.range t m) (k e : TypeId) (ht : P.underlying t = some (.map k e)) (b clock : Nat) (es : List MapEntry) (hm : a.eval m = .map (some b)) (h : MapB w b es clock)
    (hK : IterB (w.alloc (.mapIter (some b) clock #[] clock)) w.heap.size b clock #[] → wpListIn F nF P ops Q rest (a.put o.dst (.pointer (some ⟨w.heap.size, 0, none⟩))) (w.alloc (.mapIter (some b) clock #[] clock))) :
    wpListIn F nF P ops Q (o :: rest) a w := by
  refine wpListIn_plain hg fun K' hK' => ?_
  have hrun := run_range_map (P := P) w t k e b es.toArray clock ht h
  unfold Oper.wpIn
  refine ⟨by simp [Oper.about, hop], ?_⟩
  rw [Oper.semAt_plain F _ _ (by rw [hop]; intro c hc'; cases hc')]
  simp [execOp, hop, hm, hrun, Result.andThen]
  exact hK' _ _ (hK ⟨clock, Nat.le_refl _, heap_alloc_new w _⟩)
theorem wpListIn_next_b (hg : o.guard = none) (it : Operand) (hop : o.op = Op.next it false) (b r clock : Nat) (es : List MapEntry) (seen : Array Nat) (hit : a.eval it = .pointer (some ⟨r, 0, none⟩)) (h : MapB w b es clock) (hB : BornOk es clock) (hI : IterB w r b clock seen)
    (hDone : NoneLeft es seen → wpListIn F nF P ops Q rest (a.put o.dst (.tuple #[.bool false])) w)
    (hMore : ∀ (x : MapEntry) (w' : World), x ∈ es → Unseen seen x → MapB w' b es clock → IterB w' r b clock (seen.push x.born) → w.grownBy w' (some r) → w'.heap.size = w.heap.size → w'.rangeLeft b r < w.rangeLeft b r →
      (Instr.entry (.pointer (some ⟨r, 0, none⟩))).run P w' = .ok (.tuple #[x.key, x.val]) w' → wpListIn F nF P ops Q rest (a.put o.dst (.tuple #[.bool true, x.key, x.val])) w') :
    wpListIn F nF P ops Q (o :: rest) a w := by
  obtain ⟨c0, hc0, hr⟩ := hI
  refine wpListIn_plain hg fun K' hK' => ?_
  rcases run_next_at (P := P) w o.type r b clock c0 seen es.toArray clock hr h (fun x hx => born_lt hB x (by simpa using hx)) hc0 with ⟨h0, hrun⟩ | ⟨e, he, w1, hal, hrun⟩
  · unfold Oper.wpIn
    refine ⟨by simp [Oper.about, hop], ?_⟩
    rw [Oper.semAt_plain F _ _ (by rw [hop]; intro c hc'; cases hc')]
    simp [execOp, hop, hit, hrun, Result.andThen]
    exact hK' _ _ (hDone (show NoneLeft es seen from (by
      have := leftOf_list es seen
      rw [Array.eq_empty_of_size_eq_zero h0] at this
      exact this.symm)))
  · unfold Oper.wpIn
    refine ⟨by simp [Oper.about, hop], ?_⟩
    rw [Oper.semAt_plain F _ _ (by rw [hop]; intro c hc'; cases hc')]
    simp [execOp, hop, hit, hrun, Result.andThen]
    obtain ⟨hem, hes⟩ := mem_left he
    have hne : b ≠ r := fun e1 => by
      subst e1
      unfold MapB at h
      rw [h] at hr; cases hr
    have hr1 : w1.heap[r]? = some (.mapIter (some b) clock seen c0) := by rcases hal with rfl | rfl <;> exact hr
    have hb1 : w1.heap[b]? = some (.map es.toArray clock) := by rcases hal with rfl | rfl <;> exact h
    have hlt : r < w1.heap.size := (Array.getElem?_eq_some_iff.1 hr1).1
    have hrs : (setBlock w1 r (.mapIter (some b) clock (seen.push e.born) clock)).heap[r]? = some (.mapIter (some b) clock (seen.push e.born) clock) := by simp [setBlock, hlt]
    have hbs : (setBlock w1 r (.mapIter (some b) clock (seen.push e.born) clock)).heap[b]? = some (.map es.toArray clock) := by
      simp [setBlock, Ne.symm hne, hb1]
    refine hK' _ _ (hMore e _ (by simpa using hem) hes hbs ⟨clock, Nat.le_refl _, hrs⟩ ?_ ?_ ?_ ?_)
    · have hg1 : w1.grownBy (setBlock w1 r (.mapIter (some b) clock (seen.push e.born) clock)) (some r) := ⟨rfl, rfl, rfl, by simp [setBlock], fun i _ hi => by
        have : r ≠ i := fun e1 => hi (by rw [e1])
        simp [setBlock, this]⟩
      rcases hal with rfl | rfl
      · exact hg1
      · exact ⟨hg1.os, hg1.tape, hg1.output, hg1.size, hg1.block⟩
    · rcases hal with rfl | rfl <;> simp [setBlock]
    · unfold MapB at h
      simp only [World.rangeLeft, hrs, hbs, h, hr]
      exact left_shrinks es.toArray seen e he
    · exact run_entry_at _ r b clock seen es.toArray clock e hrs hbs (by simpa using hem) (by simpa using born_nodup hB)
end

set_option maxRecDepth 100000 in
set_option maxHeartbeats 1000000 in
/-- the iterator of maps.Values -/
theorem values1_in (F : Fence) (n : Nat) (hf : F.fn 29) (hro : F.round = none) (hn : 1 ≤ n) (l Bm b clock : Nat) (es : List MapEntry) (J Jx : List SlV → World → Prop)
    (hB : BornOk es clock) (hval : ∀ e ∈ es, ∃ s : SlV, e.val = slV s)
    (hY : ∀ pre x W, J pre W → pre.length < es.length → YieldAt F (n - 1) Try.prog l #[slV x] W fun e W' =>
      (e = .returned (.bool true) ∧ J (pre ++ [x]) W' ∧ KeepsWalks W W') ∨ (e = .returned (.bool false) ∧ Jx (pre ++ [x]) W'))
    (W : World) (hJ : AbidesFrom W.heap.size J) (hm : W.cell? ⟨Bm, 0, none⟩ = some (.map (some b))) (hM : MapB W b es clock) (h0 : J [] W) :
    CallsIn F n Try.prog 29 #[.func (.yield l) #[] #[], .pointer (some ⟨Bm, 0, none⟩)] W fun e W' => (∃ v, e = .returned v) ∧
      ((∃ xs : List SlV, (xs.map slV).Perm (es.map (·.val)) ∧ J xs W') ∨ (∃ pre : List SlV, True ∧ Jx pre W')) := by
  refine callsIn_of_wp Try.func29 rfl hf ?_ hro
  simp only [Try.ntmps29, List.size_toArray, List.length_cons, List.length_nil, Nat.reduceAdd, Nat.reduceSub, Array.replicate_succ, Array.replicate_zero, List.push_toArray, List.append_toArray, List.nil_append, List.cons_append]
  gi_wp2_with (gi_at_range; refine wpListIn_range_b rfl _ 50 rfl 3 28 Try.underlying50 b clock es rfl hM ?_; intro hI0)
  go_frame
  gi_loopw [4] (fun _ wr => ∃ (done : List MapEntry) (xs : List SlV) (seen : Array Nat), MapB wr b es clock ∧ IterB wr W.heap.size b clock seen ∧ done.map (·.val) = xs.map slV ∧ (done ++ es.filter fun e => !seen.contains e.born).Perm es ∧ J xs wr)
    (fun _ wr => wr.rangeLeft b W.heap.size)
  case atStart =>
    exact ⟨[], [], #[], hM.alloc _, hI0, rfl, by rw [List.nil_append, List.filter_eq_self.2 (by simp)], hJ _ W _ none h0 (World.grownBy_alloc W _ none) (fun r e => by cases e)⟩
  case round =>
    obtain ⟨done, xs, seen, hMr, hI, hdx, hperm, hJs⟩ := hrel
    gi_wp2_with (gi_at_next; refine wpListIn_next_b rfl _ rfl b W.heap.size clock es seen rfl hMr hB hI ?_ ?_)
    · intro hl0
      gi_wp2
      go_end0
      rw [show (es.filter fun e => !seen.contains e.born) = [] from hl0, List.append_nil] at hperm
      exact ⟨⟨_, rfl⟩, .inl ⟨xs, by rw [← hdx]; exact hperm.map _, hJs⟩⟩
    · intro x w2 hx hs hM2 hI2 hg2 hs2 hlt hen
      obtain ⟨s, hxs⟩ := hval x hx
      have hlen : xs.length < es.length := by
        have h1 := hperm.length_eq
        have h2 : xs.length = done.length := by have := congrArg List.length hdx; simpa using this.symm
        have h3 : 0 < (es.filter fun e => !seen.contains e.born).length := by
          apply List.length_pos_of_mem (a := x)
          rw [List.mem_filter]
          exact ⟨hx, by rw [show seen.contains x.born = false from hs]; rfl⟩
        rw [List.length_append] at h1
        omega
      have hJ2 : J xs w2 := hJ _ wr w2 (some W.heap.size) hJs hg2 (fun r e => by
        cases e
        obtain ⟨c0, _, hr⟩ := hI
        exact ⟨Nat.le_refl _, _, hr, rfl⟩)
      obtain ⟨fn, tmps, assign, body, hy, hR⟩ := hY xs s w2 hJ2 hlen
      have HP := Lib.hid hperm
      have HS := hs
      have HX := Lib.hid hx
      have HDX := Lib.hid hdx
      have hkey := x.key
      rw [hxs] at hen ⊢
      have HXS := Lib.hid hxs
      unfold slV at hen hy ⊢
      clear hs2 hperm hs hx hdx hxs hlen hval
      gi_wp2
      refine hR.mono ?_
      rintro e W3 (⟨rfl, hJ3, hk3⟩ | ⟨rfl, hJx3⟩)
      · gi_wp2
        have hM3 : MapB W3 b es clock := hk3.same b _ hM2 rfl
        have hI3 : IterB W3 W.heap.size b clock (seen.push x.born) := by
          obtain ⟨c0, h1, hr⟩ := hI2
          exact ⟨c0, h1, hk3.same _ _ hr rfl⟩
        have hl3 : W3.rangeLeft b W.heap.size = w2.rangeLeft b W.heap.size := by
          obtain ⟨c0, h1, hr⟩ := hI2
          have hr' := hk3.same _ _ hr rfl
          unfold MapB at hM3 hM2
          simp only [World.rangeLeft, hr, hr', hM3, hM2]
        go_roundw
        case rel =>
          refine ⟨done ++ [x], xs ++ [s], seen.push x.born, hM3, hI3, by rw [List.map_append, HDX.out, List.map_append]; simp [HXS.out, slV], ?_, hJ3⟩
          refine List.Perm.trans ?_ HP.out
          have h1 := perm_pick (born_pw hB) HX.out (fun e => !seen.contains e.born) (by rw [show seen.contains x.born = false from HS]; rfl)
          have h2 : (es.filter fun e => !(seen.push x.born).contains e.born) = es.filter fun e => (!seen.contains e.born) && !(e.born == x.born) := by
            apply List.filter_congr
            intro y _
            rw [contains_push]
            cases seen.contains y.born <;> rfl
          rw [h2, List.append_assoc, List.singleton_append]
          exact (h1.append_left done)
        case measure => rw [hl3]; exact hlt
      · gi_wp2
        refine bodyPost_ret (results_none rfl _ _ _) rfl ?_
        exact ⟨⟨_, rfl⟩, .inr ⟨xs ++ [s], trivial, hJx3⟩⟩
end Go.Proofs.Ytidlfjaogjpokaa
