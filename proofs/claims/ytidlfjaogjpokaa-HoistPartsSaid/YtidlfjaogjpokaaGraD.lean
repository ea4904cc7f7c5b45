/- The reference of layer 26: the depths of a graph's nodes. -/
import Derived.Test.YtidlfjaogjpokaaGraC
namespace Go.Proofs.Ytidlfjaogjpokaa
open Go.RowKit

/-- the depth of a node, from those before it -/
def depOf (out : List Int) (x : Nd) : Int :=
  (if hasB x.1 then (if (if hasA x.1 then out.getD x.2.1.toNat 0 else 0) < out.getD x.2.2.1.toNat 0 then out.getD x.2.2.1.toNat 0 else (if hasA x.1 then out.getD x.2.1.toNat 0 else 0)) else (if hasA x.1 then out.getD x.2.1.toNat 0 else 0)) + (if x.1 = 5 then 1 else 0)
def depGo (out : List Int) : List Nd → List Int
  | [] => out
  | x :: l => depGo (out ++ [depOf out x]) l
def depsOf (l : List Nd) : List Int := depGo [] l
theorem depGo_append (l l' : List Nd) : ∀ out, depGo out (l ++ l') = depGo (depGo out l) l' := by
  induction l with
  | nil => intro out; rfl
  | cons x l ih => intro out; exact ih _
theorem depGo_len (l : List Nd) : ∀ out, (depGo out l).length = out.length + l.length := by
  induction l with
  | nil => intro out; rfl
  | cons x l ih => intro out; rw [depGo, ih]; simp; omega
theorem depsOf_len (l : List Nd) : (depsOf l).length = l.length := by simp [depsOf, depGo_len]
theorem depsOf_snoc (l : List Nd) (i : Nat) (h : i < l.length) : depsOf (l.take (i + 1)) = depsOf (l.take i) ++ [depOf (depsOf (l.take i)) l[i]] := by
  unfold depsOf
  rw [List.take_succ_eq_append_getElem h, depGo_append]
  rfl
theorem getD_bd (out : List Int) (n : Int) (h : ∀ y ∈ out, 0 ≤ y ∧ y ≤ n) (hn : 0 ≤ n) (j : Nat) : 0 ≤ out.getD j 0 ∧ out.getD j 0 ≤ n := by
  rw [List.getD_eq_getElem?_getD]
  rcases h1 : out[j]? with _ | y
  · simp [hn]
  · simpa using h y (List.mem_of_getElem? h1)
theorem depOf_bd (out : List Int) (n : Int) (h : ∀ y ∈ out, 0 ≤ y ∧ y ≤ n) (hn : 0 ≤ n) (x : Nd) : 0 ≤ depOf out x ∧ depOf out x ≤ n + 1 := by
  have h1 := getD_bd out n h hn x.2.1.toNat
  have h2 := getD_bd out n h hn x.2.2.1.toNat
  unfold depOf
  generalize out.getD x.2.1.toNat 0 = u at h1 ⊢
  generalize out.getD x.2.2.1.toNat 0 = v at h2 ⊢
  repeat' split
  all_goals omega
theorem depGo_bd (l : List Nd) : ∀ out : List Int, (∀ y ∈ out, 0 ≤ y ∧ y ≤ out.length) → ∀ y ∈ depGo out l, 0 ≤ y ∧ y ≤ (depGo out l).length := by
  induction l with
  | nil => intro out h; exact h
  | cons x l ih =>
    intro out h
    refine ih _ fun y hy => ?_
    rcases List.mem_append.1 hy with h1 | h1
    · have := h y h1; simp; omega
    · have := depOf_bd out out.length h (by omega) x
      rw [List.mem_singleton.1 h1]; simp; omega
theorem depsOf_bd (l : List Nd) : ∀ y ∈ depsOf l, 0 ≤ y ∧ y ≤ l.length := by
  have := depGo_bd l [] (by simp)
  intro y hy
  have h := this y hy
  rw [depGo_len] at h
  simpa using h
/-- do the nodes of a list refer to earlier ones? -/
def Refs (l : List Nd) : Prop := ∀ i (h : i < l.length), argB (hasA l[i].1) i l[i].2.1 = true ∧ argB (hasB l[i].1) i l[i].2.2.1 = true
theorem info_i64 : (Try.prog.info? 3).map (fun i => (i.zero, i.size, i.bytes)) = some (some (.int .i64 0), 1, 8) := by kernel_rfl

theorem ints_snoc (k : IntKind) (l : List Int) (x : Int) : ints k (l ++ [x]) = ints k l ++ [.int k x] := by simp [ints]
/-- an append of one element that stands in a block made just before -/
theorem wpList_append_one {P : Program} {ops : Array Oper} {rest : List Oper} {o : Oper} {a : Act} {Q : Exit → Act → World → Prop} (w0 : World) (te : TypeId) (v : Value) (hgd : o.guard = none) (s x : Operand) (t : TypeId)
    (ho : o.op = .call { callee := .builtin .append, args := #[s, x], argTypes := #[t, t] })
    (base : Nat) (e : TypeId) (i : TypeInfo) (z : Value) (bytes : Nat) (ht : P.underlying t = some (.slice e)) (hi : P.info? e = some i) (hz : i.zero = some z)
    (hsize : i.size = 1) (hby : i.bytes = bytes) (hzs : z.cells.size = 1) (hone : v.oneCell' = true)
    (V : Value) (n : Nat) (xs : List Value) (hown : w0.ownsRow base e 1 V n xs) (hs : a.eval s = V) (nb : Nat) (hx : a.eval x = .slice (some ⟨nb, 0, none⟩) 1 1) (hnb : nb = w0.heap.size)
    (h63 : n + 1 ≤ maxLen) (hbytes : (n + 1) * bytes ≤ 140737488355328) (hbase : base ≤ w0.heap.size)
    (h : ∀ v' w', w'.ownsRow base e 1 v' (n + 1) (xs ++ [v]) → (w0.alloc (.cells #[v] te)).grownBy w' V.ownBlock → wpList P ops Q rest (a.put o.dst v') w') : wpList P ops Q (o :: rest) a (w0.alloc (.cells #[v] te)) := by
  subst hnb
  have hB : Blk (w0.alloc (.cells #[v] te)) w0.heap.size te #[v] := Blk.new _ _ _
  refine wpList_append_own (w := w0.alloc (.cells #[v] te)) hgd s x t ho base e i z 1 bytes ht hi hz hsize hby hzs (by omega) V n xs hs (hown.alloc _) ⟨w0.heap.size, 0, none⟩ 1 1 [v] hx rfl (fun j u hu => ?_) (fun u hu => ?_) h63 hbytes (by simp; omega) fun v' w' h1 h2 _ => h v' w' h1 h2
  · rcases j with _ | j
    · simp at hu; subst hu; exact hB.cellv 0 rfl
    · simp at hu
  · rw [List.mem_singleton.1 hu]; exact hone
theorem own_base {w : World} {base base' : Nat} {e : TypeId} {size n : Nat} {V : Value} {xs : List Value} (h : w.ownsRow base e size V n xs) (hb : base' ≤ base) : w.ownsRow base' e size V n xs := by
  refine ⟨h.1, ?_⟩
  rcases h.2 with h' | ⟨g, cap, cur, e1, hb', rest⟩
  · exact .inl h'
  · exact .inr ⟨g, cap, cur, e1, Nat.le_trans hb hb', rest⟩
theorem own_far {w : World} {base : Nat} {e : TypeId} {size n : Nat} {V : Value} {xs : List Value} (h : w.ownsRow base e size V n xs) {g : Nat} (hg : g < base) : some g ≠ V.ownBlock := fun e => by
  have := h.lt g e.symm
  omega
theorem ints_cell {w : World} {base : Nat} {e : TypeId} {g n cap : Nat} {k : IntKind} {D : List Int} (h : w.ownsRow base e 1 (.slice (some ⟨g, 0, none⟩) n cap) n (ints k D)) (hD : D.length = n) {m : Nat} (hm : m < n) : w.cell? ⟨g, m, none⟩ = some (.int k (D[m]?.getD 0)) := by
  rw [h.cellAt m (by omega)]
  simp [ints, show m < D.length by omega]

set_option maxRecDepth 100000 in
set_option maxHeartbeats 2000000 in
theorem rdepths_any (inp : Int) (AP : Option Addr) (np cp : Nat) (AN : Option Addr) (cn : Nat) (AO : Option Addr) (no co : Nat) (l : List Nd) (w : World) (hN : Nds w AN l) (hl : l.length ≤ 100000) (hR : Refs l) :
    Calls Try.prog 19 #[.agg #[.int .i64 inp, .slice AP np cp, .slice AN l.length cn, .slice AO no co]] w
      fun e w' => ∃ v, e = .returned v ∧ w'.ownsRow w.heap.size 3 1 v l.length (ints .i64 (depsOf l)) ∧ Below w.heap.size w w' := by
  obtain ⟨i0, hi0, hz0, hz1, hz2⟩ := info_parts info_i64
  have HR := Lib.hid hR
  have HN := Lib.hid hN
  clear hR hN
  go_enter Try.func19, Try.ntmps19
  go_wp2
  go_loopw [3, 4] (fun v x wr => ∃ i : Nat, i ≤ l.length ∧ x = .int .i64 i ∧ wr.ownsRow (w.heap.size + 1) 3 1 v i (ints .i64 (depsOf (l.take i))) ∧ Blk wr w.heap.size 30 #[.int .i64 inp, .slice AP np cp, .slice AN l.length cn, .slice AO no co] ∧ Below w.heap.size w wr) (fun _ x _ => l.length - (intOf x).toNat)
  case atStart => exact ⟨0, by omega, rfl, ⟨by simp [ints, depsOf, depGo], .inl ⟨rfl, rfl⟩⟩, Blk.new _ _ _, (Below.refl _ _).alloc (Nat.le_refl _) _⟩
  case round =>
    obtain ⟨i, hi, rfl, hown, hK, hB⟩ := hrel
    have d2 : wr.cell? ⟨w.heap.size, 2, none⟩ = some (.slice AN l.length cn) := hK.cellv 2 rfl
    by_cases hlt : i < l.length
    · obtain ⟨b, o, rfl, hb, c0, c1, c2, c3⟩ := (HN.out.below hB).ix hlt
      have hsn := Lib.hid (depsOf_snoc l i hlt)
      obtain ⟨r1, r2⟩ := HR.out i hlt
      have hbd := Lib.hid (depsOf_bd (l.take i))
      have hdl := depsOf_len (l.take i)
      generalize l[i] = x at *
      obtain ⟨op, x1, x2, k⟩ := x
      dsimp only at c0 c1 c2 c3 r1 r2
      unfold argB at r1 r2
      generalize depsOf (l.take i) = D at *
      have hDl : Hid (D.length = i) := Lib.hid (by rw [hdl, List.length_take]; omega)
      have hBD : Hid (∀ m : Nat, 0 ≤ D[m]?.getD 0 ∧ D[m]?.getD 0 ≤ 100000) := Lib.hid fun m => by
        have := getD_bd D 100000 (fun y hy => by have := hbd.out y hy; have := List.length_take_le i l; omega) (by omega) m
        rwa [List.getD_eq_getElem?_getD] at this
      have hOB := own_far hown (Nat.lt_succ_self w.heap.size)
      have hbase : w.heap.size + 1 ≤ wr.heap.size := hK.lt
      clear hdl hbd
      have HE : Hid (∀ (v' : Value) (w1 : World) (d : Int), d = depOf D (op, x1, x2, k) → w1.ownsRow (w.heap.size + 1) 3 1 v' (i + 1) (ints .i64 D ++ [.int .i64 d]) → ((wr.alloc (.cells #[.int .i64 op, .int .i64 x1, .int .i64 x2, .int .i64 k] 40)).alloc (.cells #[.int .i64 d] 3)).grownBy w1 u3.ownBlock →
          (∃ i' : Nat, i' ≤ l.length ∧ Value.int .i64 (i + 1) = .int .i64 i' ∧ w1.ownsRow (w.heap.size + 1) 3 1 v' i' (ints .i64 (depsOf (l.take i'))) ∧ Blk w1 w.heap.size 30 #[.int .i64 inp, .slice AP np cp, .slice (some ⟨b, o, none⟩) l.length cn, .slice AO no co] ∧ Below w.heap.size w w1)) := Lib.hid fun v' w1 d hd h1 h2 => by
        have hz : ((wr.alloc (.cells #[.int .i64 op, .int .i64 x1, .int .i64 x2, .int .i64 k] 40)).alloc (.cells #[.int .i64 d] 3)).heap.size = wr.heap.size + 2 := by simp
        refine ⟨i + 1, by omega, by go_num, by rw [hsn.out, ints_snoc, ← hd]; exact h1, ((hK.alloc _).alloc _).grown h2 hOB, ?_⟩
        exact (bl_then (bl_then hB ((Below.refl _ _).alloc (Nat.le_refl _) _) (Nat.le_refl _)) ((Below.refl _ _).alloc (Nat.le_refl _) _) (Nat.le_refl _)).grown h2 (by simp; omega) (fun j hj => by have := hown.lt j hj; omega)
      clear hsn
      rcases Nat.eq_zero_or_pos i with h0 | h0
      · have hA : hasA op = false := by
          cases h : hasA op
          · rfl
          · rw [h] at r1; simp at r1; omega
        have hBb : hasB op = false := by
          cases h : hasB op
          · rfl
          · rw [h] at r2; simp at r2; omega
        have H0 := Lib.hid h0
        clear r1 r2 h0
        have h5' : ¬ op = 5 := by rintro rfl; simp [hasA] at hA
        have h5 : (op == 5) = false := by simp [h5']
        have H5 := Lib.hid h5'
        clear h5'
        go_wp2_with (first | (go_at_call 33; refine (ruses_any _ _).mono ?_; rintro e w' ⟨rfl, rfl⟩) | (at_builtin; refine wpList_append_one _ _ _ rfl (.tmp 48) (.tmp 50) _ rfl (w.heap.size + 1) 3 i0 _ 8 Try.underlying28 hi0 hz0 hz1 hz2 rfl rfl _ _ _ (hown.alloc _) rfl _ rfl (by simp) (by unfold maxLen; omega) (by omega) (by simp; omega) ?_; intro v1 w1 hown1 hg1))
        all_goals
          go_roundw
          case rel => exact HE.out _ _ _ (by simp only [depOf, hA, hBb]; have h5' := H5.out; simp [h5', *]) hown1 hg1
          case measure => simp [intOf]; omega
      · obtain ⟨g, cap, rfl, hg1, hg2⟩ := hown.form h0
        cases hA : hasA op <;> cases hBb : hasB op
        · clear r1 r2
          by_cases h5' : op = 5
          · have h5 : (op == 5) = true := by simp [h5']
            have H5 := Lib.hid h5'
            clear h5'
            go_wp2_with (first | (go_at_call 33; refine (ruses_any _ _).mono ?_; rintro e w' ⟨rfl, rfl⟩) | (at_builtin; refine wpList_append_one _ _ _ rfl (.tmp 48) (.tmp 50) _ rfl (w.heap.size + 1) 3 i0 _ 8 Try.underlying28 hi0 hz0 hz1 hz2 rfl rfl _ _ _ (hown.alloc _) rfl _ rfl (by simp) (by unfold maxLen; omega) (by omega) (by simp; omega) ?_; intro v1 w1 hown1 hg1))
            all_goals
              go_roundw
              case rel => exact HE.out _ _ _ (by simp only [depOf, hA, hBb]; have h5' := H5.out; simp [h5', *]) hown1 hg1
              case measure => simp [intOf]; omega
          · have h5 : (op == 5) = false := by simp [h5']
            have H5 := Lib.hid h5'
            clear h5'
            go_wp2_with (first | (go_at_call 33; refine (ruses_any _ _).mono ?_; rintro e w' ⟨rfl, rfl⟩) | (at_builtin; refine wpList_append_one _ _ _ rfl (.tmp 48) (.tmp 50) _ rfl (w.heap.size + 1) 3 i0 _ 8 Try.underlying28 hi0 hz0 hz1 hz2 rfl rfl _ _ _ (hown.alloc _) rfl _ rfl (by simp) (by unfold maxLen; omega) (by omega) (by simp; omega) ?_; intro v1 w1 hown1 hg1))
            all_goals
              go_roundw
              case rel => exact HE.out _ _ _ (by simp only [depOf, hA, hBb]; have h5' := H5.out; simp [h5', *]) hown1 hg1
              case measure => simp [intOf]; omega
        · exfalso; simp [hasA, hasB] at hA hBb; omega
        · rw [hA] at r1
          simp at r1
          obtain ⟨m, rfl⟩ : ∃ m : Nat, x1 = m := ⟨x1.toNat, by omega⟩
          have e1 := ints_cell hown hDl.out (m := m) (by omega)
          have b1 := hBD.out m
          clear r2
          by_cases h5' : op = 5
          · have h5 : (op == 5) = true := by simp [h5']
            have H5 := Lib.hid h5'
            clear h5'
            go_wp2_with (first | (go_at_call 33; refine (ruses_any _ _).mono ?_; rintro e w' ⟨rfl, rfl⟩) | (at_builtin; refine wpList_append_one _ _ _ rfl (.tmp 48) (.tmp 50) _ rfl (w.heap.size + 1) 3 i0 _ 8 Try.underlying28 hi0 hz0 hz1 hz2 rfl rfl _ _ _ (hown.alloc _) rfl _ rfl (by simp) (by unfold maxLen; omega) (by omega) (by simp; omega) ?_; intro v1 w1 hown1 hg1))
            all_goals
              go_roundw
              case rel => exact HE.out _ _ _ (by simp only [depOf, hA, hBb]; have h5' := H5.out; simp [h5', *]) hown1 hg1
              case measure => simp [intOf]; omega
          · have h5 : (op == 5) = false := by simp [h5']
            have H5 := Lib.hid h5'
            clear h5'
            go_wp2_with (first | (go_at_call 33; refine (ruses_any _ _).mono ?_; rintro e w' ⟨rfl, rfl⟩) | (at_builtin; refine wpList_append_one _ _ _ rfl (.tmp 48) (.tmp 50) _ rfl (w.heap.size + 1) 3 i0 _ 8 Try.underlying28 hi0 hz0 hz1 hz2 rfl rfl _ _ _ (hown.alloc _) rfl _ rfl (by simp) (by unfold maxLen; omega) (by omega) (by simp; omega) ?_; intro v1 w1 hown1 hg1))
            all_goals
              go_roundw
              case rel => exact HE.out _ _ _ (by simp only [depOf, hA, hBb]; have h5' := H5.out; simp [h5', *]) hown1 hg1
              case measure => simp [intOf]; omega
        · rw [hA] at r1
          rw [hBb] at r2
          simp at r1 r2
          obtain ⟨m, rfl⟩ : ∃ m : Nat, x1 = m := ⟨x1.toNat, by omega⟩
          obtain ⟨m', rfl⟩ : ∃ m : Nat, x2 = m := ⟨x2.toNat, by omega⟩
          have e1 := ints_cell hown hDl.out (m := m) (by omega)
          have e2 := ints_cell hown hDl.out (m := m') (by omega)
          have b1 := hBD.out m
          have b2 := hBD.out m'
          by_cases h5' : op = 5
          · have h5 : (op == 5) = true := by simp [h5']
            have H5 := Lib.hid h5'
            clear h5'
            go_wp2_with (first | (go_at_call 33; refine (ruses_any _ _).mono ?_; rintro e w' ⟨rfl, rfl⟩) | (at_builtin; refine wpList_append_one _ _ _ rfl (.tmp 48) (.tmp 50) _ rfl (w.heap.size + 1) 3 i0 _ 8 Try.underlying28 hi0 hz0 hz1 hz2 rfl rfl _ _ _ (hown.alloc _) rfl _ rfl (by simp) (by unfold maxLen; omega) (by omega) (by simp; omega) ?_; intro v1 w1 hown1 hg1))
            all_goals
              go_roundw
              case rel => exact HE.out _ _ _ (by simp only [depOf, hA, hBb]; have h5' := H5.out; simp [h5', *]) hown1 hg1
              case measure => simp [intOf]; omega
          · have h5 : (op == 5) = false := by simp [h5']
            have H5 := Lib.hid h5'
            clear h5'
            go_wp2_with (first | (go_at_call 33; refine (ruses_any _ _).mono ?_; rintro e w' ⟨rfl, rfl⟩) | (at_builtin; refine wpList_append_one _ _ _ rfl (.tmp 48) (.tmp 50) _ rfl (w.heap.size + 1) 3 i0 _ 8 Try.underlying28 hi0 hz0 hz1 hz2 rfl rfl _ _ _ (hown.alloc _) rfl _ rfl (by simp) (by unfold maxLen; omega) (by omega) (by simp; omega) ?_; intro v1 w1 hown1 hg1))
            all_goals
              go_roundw
              case rel => exact HE.out _ _ _ (by simp only [depOf, hA, hBb]; have h5' := H5.out; simp [h5', *]) hown1 hg1
              case measure => simp [intOf]; omega
    · go_wp2
      go_ret
      have e : i = l.length := by omega
      subst e
      rw [List.take_length] at hown
      exact ⟨_, rfl, own_base hown (by omega), hB⟩
end Go.Proofs.Ytidlfjaogjpokaa
