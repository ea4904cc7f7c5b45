/- maps.Values, slices.AppendSeq, slices.Collect. -/
import Derived.Test.YtidlfjaogjpokaaHoB
namespace Go.Proofs.Ytidlfjaogjpokaa
open Go.RowKit Go.Maps Go.ChangeMaps Go.Shelf
attribute [local go_sem] Oper.semAt_some

theorem values_any (b : Nat) (w : World) :
    Calls Try.prog 17 #[.map (some b)] w fun e w' => e = .returned (.func (.func 29) #[] #[.pointer (some ⟨w.heap.size, 0, none⟩)]) ∧ w' = w.alloc (.cells #[.map (some b)] 50) := by
  go_enter Try.func17, Try.ntmps17
  go_wp2
  go_ret
  exact ⟨rfl, rfl⟩

theorem values_stops (F : Fence) (n : Nat) (hf : F.fn 29) (hro : F.round = none) (hn : 1 ≤ n) (Bm b clock : Nat) (es : List MapEntry) (hB : BornOk es clock) (hval : ∀ e ∈ es, ∃ s : SlV, e.val = slV s) (w : World) (hBm : Bm < w.heap.size)
    (hm : w.cell? ⟨Bm, 0, none⟩ = some (.map (some b))) (hM : MapB w b es clock) :
    SeqStopsK F n Try.prog 29 #[.pointer (some ⟨Bm, 0, none⟩)] (fun x : SlV => #[slV x]) KeepsWalks (fun xs => (xs.map slV).Perm (es.map (·.val))) (fun _ => True) es.length w := fun l J Jx W hW hJ _ hY h0 =>
  values1_in F n hf hro hn l Bm b clock es J Jx hB hval hY W hJ ((hW.cell (p := ⟨Bm, 0, none⟩) hBm).trans hm) (hM.keep hW) h0

theorem info_slint : (Try.prog.info? 28).map (fun i => (i.zero, i.size, i.bytes)) = some (some (.slice none 0 0), 1, 24) := by kernel_rfl

set_option maxRecDepth 100000 in
set_option maxHeartbeats 2000000 in
theorem appendSeq_in (F : Fence) (n : Nat) (hf : F.fn 28) (hg : F.fn 29) (hro : F.round = none) (hn : 3 ≤ n) (Bm b clock : Nat) (es : List MapEntry) (hB : BornOk es clock) (hval : ∀ e ∈ es, ∃ s : SlV, e.val = slV s) (hlen : es.length ≤ 100000)
    (w : World) (hBm : Bm < w.heap.size) (hm : w.cell? ⟨Bm, 0, none⟩ = some (.map (some b))) (hM : MapB w b es clock) :
    CallsIn F n Try.prog 28 #[.slice none 0 0, .func (.func 29) #[] #[.pointer (some ⟨Bm, 0, none⟩)]] w fun e W' =>
      ∃ (v : Value) (xs : List SlV), e = .returned v ∧ (xs.map slV).Perm (es.map (·.val)) ∧ W'.ownsRow w.heap.size 28 1 v xs.length (xs.map slV) ∧ Below w.heap.size w W' := by
  have h1 : 1 ≤ n := by omega
  obtain ⟨i0, hi, hz0, hz1, hz2⟩ := info_parts info_slint
  refine callsIn_of_wp_marks Try.func28 rfl hf ?_ hro
  simp only [Try.ntmps28, List.size_toArray, List.length_cons, List.length_nil, Nat.reduceAdd, Nat.reduceSub, Array.replicate_succ, Array.replicate_zero, List.push_toArray, List.append_toArray, List.nil_append, List.cons_append]
  gi_wp2
  have bO := Boxed.new w 33 (.slice none 0 0)
  have hB0 : Below w.heap.size w (w.alloc (.cells #[.slice none 0 0] 33)) := (Below.refl _ w).alloc (Nat.le_refl _) _
  refine wpIn_rangeFunc_ownG hro h1 (gf := 29) (lb := #[.pointer (some ⟨Bm, 0, none⟩)]) rfl hg (enters_of Try.func29 (by kernel_rfl) rfl)
    (values_stops F (n - 1) hg hro (by omega) Bm b clock es hB hval w hBm hm hM) walksK_t walksK_b hB0 (fun _ => rfl)
    (fun pre W => (∃ v, Boxed W w.heap.size 33 v ∧ W.ownsRow w.heap.size 28 1 v pre.length (pre.map slV) ∧ True) ∧ Below w.heap.size w W)
    (fun _ _ _ => False)
    (OwnFrom.and (Own.from (holdsRow_own w.heap.size w.heap.size 33 28 1 (fun pre : List SlV => pre.length) (fun pre => pre.map slV) (fun _ _ => True)) _) (ownFrom_below (Nat.le_refl _) (by simp)))
    (fun _ _ _ _ _ hs _ _ => hs)
    ⟨⟨_, bO, World.ownsRow_nil _ _ _ _, trivial⟩, hB0⟩
    (fun x => { tmps := #[.slice none 0 0, .func (.func 29) #[] #[.pointer (some ⟨Bm, 0, none⟩)], .pointer (some ⟨w.heap.size, 0, none⟩), undef, .slice none 0 0, slV x, .func (.func 29) #[] #[.pointer (some ⟨Bm, 0, none⟩)], slV x, undef, undef, undef, undef, undef], defers := [] }) ?assign ?body ?done ?stop
  case assign =>
    intro l x W K hK
    gi_wp2
    exact hK
  case body =>
    rintro l pre x W ⟨⟨v, hv, hrow, _⟩, hBw⟩ hlt
    have hc := hv.cell
    unfold slV
    gi_wp2_with (gi_at_builtin; refine wpListIn_append_own _ rfl _ _ 33 rfl w.heap.size 28 i0 (.slice none 0 0) 1 24 Try.underlying33 hi hz0 hz1 hz2 rfl (by decide) _ _ _ rfl (hrow.alloc _) ⟨W.heap.size, 0, none⟩ 1 1 [.slice x.1 x.2.1 x.2.2] rfl rfl (cell_one_new _ _ _) (by simp [Value.oneCell']) (by unfold maxLen; omega) (by omega) (by have := hBw.size; simp; omega) ?_; intro v' w1 hown' hgrow _; obtain ⟨g', cap', rfl⟩ := ownsRow_succ hown'; obtain ⟨hv1, hv2, hr2, hk2, hb2⟩ := hv.appended (by decide) hrow hBw.size (Nat.le_refl _) hown' hgrow; have hc1 := hv1.cell; have hf1 := hv1.frozen)
    exact ⟨hk2.from _, hk2.walks, ⟨_, hv2, by rw [List.length_append, List.map_append]; exact hr2, trivial⟩, hBw.trans hb2⟩
  case done =>
    rintro D ys W hD hperm ⟨⟨v, hv, hrow, _⟩, hBw⟩ hK
    have hc := hv.cell
    have HP := Lib.hid hperm
    clear hperm
    gi_wp2
    refine ⟨by simp, .inl ⟨_, _, rfl, run_takeDeferred hK, ?_⟩⟩
    exact ⟨_, results_tmp rfl _ _ _, v, ys, rfl, HP.out, ownsRow_putObj hrow _ hK rfl, hBw.trans (belowK_b (w := w) (Nat.le_refl _) W D _ _ (by simp at hD; omega) hK rfl rfl)⟩
  case stop =>
    rintro D c pre W _ _ h _
    exact h.elim

set_option maxHeartbeats 1000000 in
theorem collect_in (F : Fence) (n : Nat) (hf : F.fn 16) (hf2 : F.fn 28) (hg : F.fn 29) (hro : F.round = none) (hn : 4 ≤ n) (Bm b clock : Nat) (es : List MapEntry) (hB : BornOk es clock) (hval : ∀ e ∈ es, ∃ s : SlV, e.val = slV s) (hlen : es.length ≤ 100000)
    (w : World) (hBm : Bm < w.heap.size) (hm : w.cell? ⟨Bm, 0, none⟩ = some (.map (some b))) (hM : MapB w b es clock) :
    CallsIn F n Try.prog 16 #[.func (.func 29) #[] #[.pointer (some ⟨Bm, 0, none⟩)]] w fun e W' =>
      ∃ (v : Value) (xs : List SlV), e = .returned v ∧ (xs.map slV).Perm (es.map (·.val)) ∧ W'.ownsRow w.heap.size 28 1 v xs.length (xs.map slV) ∧ Below w.heap.size w W' := by
  have h1 : 1 ≤ n := by omega
  have hcall := Lib.hid (appendSeq_in F (n - 1) hf2 hg hro (by omega) Bm b clock es hB hval hlen w hBm hm hM)
  clear hm hM hval hB
  refine callsIn_of_wp Try.func16 rfl hf ?_ hro
  simp only [Try.ntmps16, List.size_toArray, List.length_cons, List.length_nil, Nat.reduceAdd, Nat.reduceSub, Array.replicate_succ, Array.replicate_zero, List.push_toArray, List.append_toArray, List.nil_append, List.cons_append]
  gi_wp2_with (gi_at_call 28; refine hcall.out.mono ?_; rintro e w' ⟨v, xs, rfl, hp, hrow, hb⟩)
  go_ret
  exact ⟨v, xs, rfl, hp, hrow, hb⟩
/-- slices.Collect of maps.Values: the values, in some order -/
def Collects (w : World) (es : List MapEntry) (e : Ending) (W' : World) : Prop := ∃ (v : Value) (xs : List SlV), e = .returned v ∧ (xs.map slV).Perm (es.map (·.val)) ∧ W'.ownsRow w.heap.size 28 1 v xs.length (xs.map slV) ∧ Below w.heap.size w W'
theorem collect_any (Bm b clock : Nat) (es : List MapEntry) (hB : BornOk es clock) (hval : ∀ e ∈ es, ∃ s : SlV, e.val = slV s) (hlen : es.length ≤ 100000)
    (w : World) (hBm : Bm < w.heap.size) (hm : w.cell? ⟨Bm, 0, none⟩ = some (.map (some b))) (hM : MapB w b es clock) :
    Calls Try.prog 16 #[.func (.func 29) #[] #[.pointer (some ⟨Bm, 0, none⟩)]] w (Collects w es) :=
  callsIn_wide.1 (collect_in Fence.wide 4 trivial trivial trivial rfl (Nat.le_refl _) Bm b clock es hB hval hlen w hBm hm hM)
end Go.Proofs.Ytidlfjaogjpokaa
