/- Maps keyed by int, as whole objects: a store of a new key, a look-up. -/
import Derived.Test.YtidlfjaogjpokaaGraA
import Derived.Maps.OwnOps
namespace Go.Proofs.Ytidlfjaogjpokaa
open Go.RowKit Go.Maps Go.ChangeMaps

/-- block b is a map of these entries -/
def MapB (w : World) (b : Nat) (es : List MapEntry) (clock : Nat) : Prop := w.heap[b]? = some (.map es.toArray clock)
def IntKeys (es : List MapEntry) : Prop := ∀ x ∈ es, ∃ a : Int, (-9223372036854775808 ≤ a ∧ a ≤ 9223372036854775807) ∧ x.key = .int .i64 a
section
variable {w w' : World} {b clock : Nat} {es : List MapEntry}
theorem MapB.lt (h : MapB w b es clock) : b < w.heap.size := by
  rcases Nat.lt_or_ge b w.heap.size with hlt | hge
  · exact hlt
  · unfold MapB at h; rw [Array.getElem?_eq_none hge] at h; cases h
theorem MapB.new (w : World) : MapB (w.alloc (.map #[] 0)) w.heap.size [] 0 := heap_alloc_new w _
theorem MapB.keep (h : MapB w b es clock) (hb : Below w.heap.size w w') : MapB w' b es clock := (hb.block b h.lt).trans h
theorem MapB.alloc (h : MapB w b es clock) (o : Obj) : MapB (w.alloc o) b es clock := (Below.heap_alloc w o b h.lt).trans h
theorem MapB.grown {row : Option Nat} (h : MapB w b es clock) (hb : w.grownBy w' row) (hg : some b ≠ row) : MapB w' b es clock := (hb.block b h.lt hg).trans h
end

theorem int_key (P : Program) (k : TypeId) (hk : P.underlying k = some (.int .i64)) (a : Int) (h0 : -9223372036854775808 ≤ a) (h1 : a ≤ 9223372036854775807) : ∃ l, keyOf P k (.int .i64 a) = some l :=
  ⟨_, keyOf_int_mk hk (WalkArith.wf_i64 (by omega))⟩

theorem mapb_put {P : Program} {t k e : TypeId} (hk : P.underlying k = some (.int .i64)) (ht : P.underlying t = some (.map k e)) {w : World} {b clock : Nat} {es : List MapEntry} (h : MapB w b es clock) (hes : IntKeys es)
    (a : Int) (h0 : -9223372036854775808 ≤ a) (h1 : a ≤ 9223372036854775807) (hne : ∀ x ∈ es, x.key ≠ .int .i64 a) (v : Value) :
    ∃ w', (Instr.mapUpdate t (.map (some b)) (.int .i64 a) v).run P w = .ok () w' ∧ MapB w' b (es ++ [⟨.int .i64 a, v, clock⟩]) (clock + 1) ∧ w.grownBy w' (some b) := by
  have K := int_keyed hk
  obtain ⟨l, hl⟩ := int_key P k hk a h0 h1
  have hkeys : ∀ x ∈ es, ∃ l, keyOf P k x.key = some l := fun x hx => by
    obtain ⟨c, ⟨c0, c1⟩, hc⟩ := hes x hx
    rw [hc]; exact int_key P k hk c c0 c1
  unfold MapB at h
  rcases K.find w hl es hkeys with ⟨f1, f2⟩ | ⟨j, e0, f1, f2, f3⟩
  · refine ⟨setBlock w b (.map (es.toArray.push ⟨.int .i64 a, v, clock⟩) (clock + 1)), ?_, ?_, ?_⟩
    · simp [Instr.mapUpdate, run_underlying ht, MapKept.run_getObj_map h, K.check w false hl, f1, MapKept.run_setObj_map _ h, Result.andThen, setBlock]
    · show (setBlock w b _).heap[b]? = _
      have hlt : b < w.heap.size := by
        rcases Nat.lt_or_ge b w.heap.size with hlt | hge
        · exact hlt
        · rw [Array.getElem?_eq_none hge] at h; cases h
      simp [setBlock, hlt]
    · refine ⟨rfl, rfl, rfl, by simp [setBlock], fun k hk hne2 => ?_⟩
      have : b ≠ k := fun e => hne2 (by rw [e])
      simp [setBlock, this]
  · exact absurd f3 (hne e0 (List.mem_of_getElem? f2))

theorem mapb_get {P : Program} {t k e : TypeId} (hk : P.underlying k = some (.int .i64)) (ht : P.underlying t = some (.map k e)) {z : Value} {w : World} (hz : (zeroValue e).run P w = .ok z w) {b clock : Nat} {es : List MapEntry} (h : MapB w b es clock) (hes : IntKeys es)
    (a : Int) (h0 : -9223372036854775808 ≤ a) (h1 : a ≤ 9223372036854775807) (v : Value)
    (hv : (∃ x ∈ es, x.key = .int .i64 a ∧ x.val = v ∧ ∀ y ∈ es, y.key = .int .i64 a → y.val = v) ∨ ((∀ x ∈ es, x.key ≠ .int .i64 a) ∧ v = z)) :
    (Instr.lookup t (.map (some b)) (.int .i64 a) false).run P w = .ok v w := by
  have K := int_keyed hk
  obtain ⟨l, hl⟩ := int_key P k hk a h0 h1
  have hkeys : ∀ x ∈ es, ∃ l, keyOf P k x.key = some l := fun x hx => by
    obtain ⟨c, ⟨c0, c1⟩, hc⟩ := hes x hx
    rw [hc]; exact int_key P k hk c c0 c1
  unfold MapB at h
  rcases K.find w hl es hkeys with ⟨f1, f2⟩ | ⟨j, e0, f1, f2, f3⟩
  · rcases hv with ⟨x, hx, hxk, _⟩ | ⟨_, rfl⟩
    · exact absurd hxk (f2 x hx)
    · simp [Instr.lookup, run_underlying ht, MapKept.run_getObj_map h, K.check w _ hl, f1, hz, Result.andThen]
  · have hm := List.mem_of_getElem? f2
    rcases hv with ⟨x, hx, hxk, hxv, hall⟩ | ⟨hno, _⟩
    · have := hall e0 hm f3
      simp [Instr.lookup, run_underlying ht, MapKept.run_getObj_map h, K.check w _ hl, f1, Result.andThen, this]
    · exact absurd f3 (hno e0 hm)

theorem wpList_insert_b {P : Program} (w : World) {ops : Array Oper} {rest : List Oper} {o : Oper} {a : Act} {Q : Exit → Act → World → Prop} (hg : o.guard = none) (m x v : Operand) (t : TypeId) (hop : o.op = Op.insert t m x v)
    (k e : TypeId) (hk : P.underlying k = some (.int .i64)) (ht : P.underlying t = some (.map k e)) (b clock : Nat) (es : List MapEntry) (hm : a.eval m = .map (some b)) (h : MapB w b es clock) (hes : IntKeys es)
    (c : Int) (h0 : -9223372036854775808 ≤ c) (h1 : c ≤ 9223372036854775807) (hne : ∀ x ∈ es, x.key ≠ .int .i64 c) (val : Value) (hx : a.eval x = .int .i64 c) (hv : a.eval v = val)
    (hK : ∀ w', MapB w' b (es ++ [⟨.int .i64 c, val, clock⟩]) (clock + 1) → w.grownBy w' (some b) → wpList P ops Q rest (a.put o.dst undef) w') : wpList P ops Q (o :: rest) a w := by
  refine wpList_plain hg fun K' hK' => ?_
  obtain ⟨w', hrun, r1, r2⟩ := mapb_put hk ht h hes c h0 h1 hne val
  unfold Oper.wp
  simp [execOp, hop, hm, hx, hv, hrun, Result.andThen]
  exact hK' _ _ (hK w' r1 r2)
end Go.Proofs.Ytidlfjaogjpokaa
