/- The reference of layer 26: Check and Depths. -/
import Derived.Test.YtidlfjaogjpokaaGraD
namespace Go.Proofs.Ytidlfjaogjpokaa
open Go.RowKit

/-- a row of a slice of slices: where it lies, what it holds, its capacity -/
abbrev RowT := Option Addr × List Int × Nat
def rowV (r : RowT) : Value := .slice r.1 r.2.1.length r.2.2
/-- the slice of slices at A reads as these rows -/
def Rws (w : World) (A : Option Addr) (rs : List RowT) : Prop := Rd w A (rs.map rowV) ∧ ∀ r ∈ rs, Rd w r.1 (ints .i64 r.2.1)
section
variable {w w' : World} {A : Option Addr} {rs : List RowT}
theorem Rws.below (h : Rws w A rs) (hb : Below w.heap.size w w') : Rws w' A rs := ⟨h.1.below hb, fun r hr => (h.2 r hr).below hb⟩
theorem Rws.alloc (h : Rws w A rs) (o : Obj) : Rws (w.alloc o) A rs := h.below ((Below.refl _ _).alloc (Nat.le_refl _) _)
theorem Rws.ix (h : Rws w A rs) {i : Nat} (hi : i < rs.length) : ∃ b o, A = some ⟨b, o, none⟩ ∧ w.cell? ⟨b, o + i, none⟩ = some (.slice rs[i].1 rs[i].2.1.length rs[i].2.2) := by
  obtain ⟨b, o, e, hc⟩ := h.1.ix (i := i) (by simpa using hi)
  exact ⟨b, o, e, by simpa [rowV] using hc⟩
end
theorem own_rd {w : World} {base : Nat} {e : TypeId} {v : Value} {n : Nat} {xs : List Value} (h : w.ownsRow base e 1 v n xs) : ∃ A c, v = .slice A n c ∧ Rd w A xs ∧ n ≤ c := by
  rcases Nat.eq_zero_or_pos n with h0 | h0
  · subst h0
    have hx : xs = [] := List.eq_nil_of_length_eq_zero (by simpa using h.1)
    subst hx
    rcases h.2 with ⟨rfl, _⟩ | ⟨g, cap, cur, rfl, _⟩
    · exact ⟨none, 0, rfl, Rd.nil _ _, Nat.le_refl _⟩
    · exact ⟨_, _, rfl, Rd.nil _ _, Nat.zero_le _⟩
  · obtain ⟨g, cap, rfl, hc, hlt⟩ := h.form h0
    refine ⟨_, _, rfl, fun k u hu => ⟨_, rfl, ?_⟩, ?_⟩
    · exact h.cells (g := g) rfl k u hu
    · rcases h.2 with ⟨h', _⟩ | ⟨g', cap', cur, h', _, _, hnc, _⟩
      · simp at h'
      · injection h' with _ _ h3; omega

def nodesGo (n t inp np : Int) : Nat → List Nd → Bool
  | _, [] => true
  | i, x :: l => nodeB n t inp np i x && nodesGo n t inp np (i + 1) l
theorem nodesGo_drop (n t inp np : Int) (l : List Nd) (i : Nat) (h : i < l.length) : nodesGo n t inp np i (l.drop i) = (nodeB n t inp np i l[i] && nodesGo n t inp np (i + 1) (l.drop (i + 1))) := by
  rw [List.drop_eq_getElem_cons h, nodesGo]
theorem nodesGo_all (n t inp np : Int) (l : List Nd) : ∀ i, nodesGo n t inp np i l = true → ∀ j (h : j < l.length), nodeB n t inp np (i + j : Nat) l[j] = true := by
  induction l with
  | nil => intro i _ j h; simp at h
  | cons x l ih =>
    intro i h j hj
    simp only [nodesGo, Bool.and_eq_true] at h
    cases j with
    | zero => exact h.1
    | succ j =>
      have := ih (i + 1) h.2 j (by simp at hj; omega)
      rw [show i + (j + 1) = i + 1 + j by omega]
      exact this
theorem refs_of (n t inp np : Int) (l : List Nd) (h : nodesGo n t inp np 0 l = true) : Refs l := fun i hi => by
  have h1 := nodesGo_all n t inp np l 0 h i hi
  rw [Nat.zero_add] at h1
  unfold nodeB at h1
  simp only [Bool.and_eq_true] at h1
  exact ⟨h1.1.1.2, h1.1.2⟩
def outsB (n : Nat) (outs : List Int) : Bool := outs.all fun o => decide (0 ≤ o) && decide (o < n)
def depB (l : List Int) : Bool := l.all fun d => decide (d ≤ 8)
/-- what Check returns, of a graph over a plain modulus t -/
def grE (N t inp : Int) (rows : List (List Int)) (nodes : List Nd) (outs : List Int) : Int :=
  if 400 < nodes.length ∨ 400 < rows.length then 3 else if inp < 0 ∨ 8 < inp ∨ outs.length < 1 ∨ 8 < outs.length then 2 else
  if rows.all (vecB N t) && (nodesGo N t inp rows.length 0 nodes && (depB (depsOf nodes) && outsB nodes.length outs)) then 0 else 2
theorem all_drop {α : Type} (f : α → Bool) (l : List α) (i : Nat) (h : i < l.length) : (l.drop i).all f = (f l[i] && (l.drop (i + 1)).all f) := by
  rw [List.drop_eq_getElem_cons h, List.all_cons]

set_option maxRecDepth 100000 in
set_option maxHeartbeats 2000000 in
theorem rgcheck_no (N pr pw sp wt er : Int) (A : Option Addr) (l : List Int) (c : Nat) (inp : Int) (AP : Option Addr) (np cp : Nat) (AN : Option Addr) (nn cn : Nat) (AO : Option Addr) (no co : Nat)
    (w : World) (hl : Rd w A (ints .u32 l)) (hc : l.length ≤ c) (hb : ∀ q ∈ l, 0 ≤ q ∧ q < 4294967296)
    (p0 : 0 ≤ pr) (p1 : pr < 4294967296) (r0 : -9223372036854775808 ≤ pw) (r1 : pw ≤ 9223372036854775807) (s0 : 0 ≤ sp) (s1 : sp < 4294967296) (e0 : 0 ≤ er) (hlen : l.length ≤ 100000)
    (hk : ¬ (M.checkOf M.primeR N pr pw l sp wt er = true ∧ 1 ≤ pw)) :
    Calls Try.prog 18 #[.agg #[.int .i64 N, .int .u32 pr, .int .i64 pw, .slice A l.length c, .int .u32 sp, .int .i64 wt, .int .u32 er], .agg #[.int .i64 inp, .slice AP np cp, .slice AN nn cn, .slice AO no co]] w
      fun e w' => e = .returned (.int .i64 2) ∧ Below w.heap.size w w' := by
  have H1 := Lib.hid (rmodulus_no N pr pw sp wt er pw A l c _ ((hl.alloc (.cells #[.int .i64 N, .int .u32 pr, .int .i64 pw, .slice A l.length c, .int .u32 sp, .int .i64 wt, .int .u32 er] 25)).alloc (.cells #[.int .i64 inp, .slice AP np cp, .slice AN nn cn, .slice AO no co] 30)) hc hb p0 p1 r0 r1 s0 s1 e0 hlen (fun h => hk ⟨h.1, h.2.1⟩))
  have hB := ((Below.refl w.heap.size w).alloc (Nat.le_refl _) (.cells #[.int .i64 N, .int .u32 pr, .int .i64 pw, .slice A l.length c, .int .u32 sp, .int .i64 wt, .int .u32 er] 25)).alloc (by simp) (.cells #[.int .i64 inp, .slice AP np cp, .slice AN nn cn, .slice AO no co] 30)
  clear hl hb hk
  go_enter Try.func18, Try.ntmps18
  go_wp2_with fail
  refine H1.out.mono ?_
  rintro e w1 ⟨rfl, hb⟩
  obtain ⟨hcc, hcf⟩ := bcell hb
  have hB1 := bl_then hB hb (by simp)
  go_wp2
  go_ret
  exact ⟨rfl, hB1⟩

set_option maxRecDepth 100000 in
set_option maxHeartbeats 4000000 in
theorem rgcheck_ok (N pr pw sp wt er : Int) (A : Option Addr) (l : List Int) (c : Nat) (inp : Int) (AP : Option Addr) (rs : List RowT) (cp : Nat) (AN : Option Addr) (nodes : List Nd) (cn : Nat) (AO : Option Addr) (outs : List Int) (co : Nat)
    (w : World) (hl : Rd w A (ints .u32 l)) (hc : l.length ≤ c) (hb : ∀ q ∈ l, 0 ≤ q ∧ q < 4294967296)
    (p0 : 0 ≤ pr) (p1 : pr < 4294967296) (r0 : -9223372036854775808 ≤ pw) (r1 : pw ≤ 9223372036854775807) (s0 : 0 ≤ sp) (s1 : sp < 4294967296) (e0 : 0 ≤ er) (hlen : l.length ≤ 100000)
    (hP : Rws w AP rs) (hN : Nds w AN nodes) (hO : Rd w AO (ints .i64 outs)) (bP : rs.length ≤ 100000) (bR : ∀ r ∈ rs, r.2.1.length ≤ 100000) (bN : nodes.length ≤ 100000) (bO : outs.length ≤ 100000)
    (hk : M.checkOf M.primeR N pr pw l sp wt er = true) (hpw : 1 ≤ pw) :
    Calls Try.prog 18 #[.agg #[.int .i64 N, .int .u32 pr, .int .i64 pw, .slice A l.length c, .int .u32 sp, .int .i64 wt, .int .u32 er], .agg #[.int .i64 inp, .slice AP rs.length cp, .slice AN nodes.length cn, .slice AO outs.length co]] w
      fun e w' => e = .returned (.int .i64 (grE N (M.plainOf M.primeR N pr pw) inp (rs.map (·.2.1)) nodes outs)) ∧ Below w.heap.size w w' := by
  have H1 := Lib.hid (rmodulus_ok N pr pw sp wt er pw A l c _ ((hl.alloc (.cells #[.int .i64 N, .int .u32 pr, .int .i64 pw, .slice A l.length c, .int .u32 sp, .int .i64 wt, .int .u32 er] 25)).alloc (.cells #[.int .i64 inp, .slice AP rs.length cp, .slice AN nodes.length cn, .slice AO outs.length co] 30)) hc hb p0 p1 r0 r1 s0 s1 e0 hlen hk hpw (Int.le_refl _))
  have hB := ((Below.refl w.heap.size w).alloc (Nat.le_refl _) (.cells #[.int .i64 N, .int .u32 pr, .int .i64 pw, .slice A l.length c, .int .u32 sp, .int .i64 wt, .int .u32 er] 25)).alloc (by simp) (.cells #[.int .i64 inp, .slice AP rs.length cp, .slice AN nodes.length cn, .slice AO outs.length co] 30)
  have hN1 := checkOf_N hk
  have ht := M.plainOf_le M.primeR N pr pw
  have ht1 : 1 ≤ M.plainOf M.primeR N pr pw := by
    rcases Int.lt_or_le 0 (M.plainOf M.primeR N pr pw) with h | h
    · omega
    · have h0 : M.plainOf M.primeR N pr pw = 0 := by omega
      rw [M.checkOf_no (.inr (.inr (.inr (.inr (.inr (.inr (.inl h0)))))))] at hk
      simp at hk
  have HP := Lib.hid hP
  have HNd := Lib.hid hN
  have HO := Lib.hid hO
  have BR := Lib.hid bR
  have KP : Blk (w.alloc (.cells #[.int .i64 N, .int .u32 pr, .int .i64 pw, .slice A l.length c, .int .u32 sp, .int .i64 wt, .int .u32 er] 25)) w.heap.size 25 #[.int .i64 N, .int .u32 pr, .int .i64 pw, .slice A l.length c, .int .u32 sp, .int .i64 wt, .int .u32 er] := Blk.new _ _ _
  have KP1 := KP.alloc (.cells #[.int .i64 inp, .slice AP rs.length cp, .slice AN nodes.length cn, .slice AO outs.length co] 30)
  have KG : Blk ((w.alloc (.cells #[.int .i64 N, .int .u32 pr, .int .i64 pw, .slice A l.length c, .int .u32 sp, .int .i64 wt, .int .u32 er] 25)).alloc (.cells #[.int .i64 inp, .slice AP rs.length cp, .slice AN nodes.length cn, .slice AO outs.length co] 30)) (w.heap.size + 1) 30 #[.int .i64 inp, .slice AP rs.length cp, .slice AN nodes.length cn, .slice AO outs.length co] := by
    have := Blk.new (w.alloc (.cells #[.int .i64 N, .int .u32 pr, .int .i64 pw, .slice A l.length c, .int .u32 sp, .int .i64 wt, .int .u32 er] 25)) 30 #[.int .i64 inp, .slice AP rs.length cp, .slice AN nodes.length cn, .slice AO outs.length co]
    simpa using this
  clear hl hb hk hP hN hO bR KP
  generalize M.plainOf M.primeR N pr pw = t at *
  go_enter Try.func18, Try.ntmps18
  go_wp2_with fail
  refine H1.out.mono ?_
  rintro e w1 ⟨rfl, hb⟩
  have hB1 := bl_then hB hb (by simp)
  have K1 := KP1.keep hb
  have K2 := KG.keep hb
  clear hB hb KP1 KG H1
  have d0 : w1.cell? ⟨w.heap.size, 0, none⟩ = some (.int .i64 N) := K1.cellv 0 rfl
  have g0 : w1.cell? ⟨w.heap.size + 1, 0, none⟩ = some (.int .i64 inp) := K2.cellv 0 rfl
  have g1 : w1.cell? ⟨w.heap.size + 1, 1, none⟩ = some (.slice AP rs.length cp) := K2.cellv 1 rfl
  have g2 : w1.cell? ⟨w.heap.size + 1, 2, none⟩ = some (.slice AN nodes.length cn) := K2.cellv 2 rfl
  have g3 : w1.cell? ⟨w.heap.size + 1, 3, none⟩ = some (.slice AO outs.length co) := K2.cellv 3 rfl
  by_cases hbig : 400 < nodes.length ∨ 400 < rs.length
  · have hr : Hid (grE N t inp (rs.map (·.2.1)) nodes outs = 3) := Lib.hid (by unfold grE; rw [if_pos (by simpa using hbig)])
    by_cases h : 400 < nodes.length
    · have q1 : decide ((400 : Int) < (nodes.length : Int)) = true := decide_eq_true (by omega)
      clear hbig h
      go_wp2
      go_ret
      exact ⟨ret_int hr.out.symm, hB1⟩
    · have q1 : decide ((400 : Int) < (nodes.length : Int)) = false := decide_eq_false (by omega)
      have q2 : decide ((400 : Int) < (rs.length : Int)) = true := decide_eq_true (by omega)
      clear hbig h
      go_wp2
      go_ret
      exact ⟨ret_int hr.out.symm, hB1⟩
  have q1 : decide ((400 : Int) < (nodes.length : Int)) = false := decide_eq_false (by omega)
  have q2 : decide ((400 : Int) < (rs.length : Int)) = false := decide_eq_false (by omega)
  by_cases hin : inp < 0 ∨ 8 < inp ∨ outs.length < 1 ∨ 8 < outs.length
  · have hr : Hid (grE N t inp (rs.map (·.2.1)) nodes outs = 2) := Lib.hid (by unfold grE; rw [if_neg (by simpa using hbig), if_pos hin])
    clear hbig
    by_cases i1 : inp < 0
    · have q3 : decide (inp < 0) = true := decide_eq_true i1
      clear hin i1
      go_wp2
      go_ret
      exact ⟨ret_int hr.out.symm, hB1⟩
    · have q3 : decide (inp < 0) = false := decide_eq_false i1
      by_cases i2 : 8 < inp
      · have q4 : decide (8 < inp) = true := decide_eq_true i2
        clear hin i1 i2
        go_wp2
        go_ret
        exact ⟨ret_int hr.out.symm, hB1⟩
      · have q4 : decide (8 < inp) = false := decide_eq_false i2
        by_cases i3 : outs.length < 1
        · have q5 : outs.length = 0 := by omega
          have q6 : decide ((outs.length : Int) < 1) = true := decide_eq_true (by omega)
          have Q5 := Lib.hid q5
          clear hin i1 i2 i3 q5
          go_wp2
          go_ret
          exact ⟨ret_int hr.out.symm, hB1⟩
        · have q5 : decide ((outs.length : Int) < 1) = false := decide_eq_false (by omega)
          have q6 : decide ((8 : Int) < (outs.length : Int)) = true := decide_eq_true (by omega)
          clear hin i1 i2 i3
          go_wp2
          go_ret
          exact ⟨ret_int hr.out.symm, hB1⟩
  have HE : Hid (grE N t inp (rs.map (·.2.1)) nodes outs = if (rs.map (·.2.1)).all (vecB N t) && (nodesGo N t inp rs.length 0 nodes && (depB (depsOf nodes) && outsB nodes.length outs)) then 0 else 2) := Lib.hid (by
    unfold grE; rw [if_neg (by simpa using hbig), if_neg hin, List.length_map])
  have b1 : nodes.length ≤ 400 := by omega
  have b2 : rs.length ≤ 400 := by omega
  have b3 : 0 ≤ inp := by omega
  have b4 : inp ≤ 8 := by omega
  have b5 : 1 ≤ outs.length := by omega
  have b6 : outs.length ≤ 8 := by omega
  have q3 : decide (inp < 0) = false := decide_eq_false (by omega)
  have q4 : decide (8 < inp) = false := decide_eq_false (by omega)
  have q5 : decide ((outs.length : Int) < 1) = false := decide_eq_false (by omega)
  have q6 : decide ((8 : Int) < (outs.length : Int)) = false := decide_eq_false (by omega)
  have BRs : Hid (∀ i (h : i < rs.length), (rs[i]).2.1.length ≤ 100000) := Lib.hid fun i h => BR.out _ (List.getElem_mem h)
  have n1 : 1 ≤ N := by omega
  have n2 : N ≤ 64 := by omega
  have t2 : t ≤ 2147483647 := by omega
  clear hbig hin d0 BR hN1 ht
  go_wp2
  go_loopw [7] (fun x wr => ∃ i : Nat, i ≤ rs.length ∧ x = .int .i64 i ∧ Below w1.heap.size w1 wr ∧ Hid (grE N t inp (rs.map (·.2.1)) nodes outs = if ((rs.drop i).map (·.2.1)).all (vecB N t) && (nodesGo N t inp rs.length 0 nodes && (depB (depsOf nodes) && outsB nodes.length outs)) then 0 else 2)) (fun x _ => rs.length - (intOf x).toNat)
  case atStart => exact ⟨0, by omega, rfl, Below.refl _ _, HE⟩
  case round =>
    obtain ⟨i, hi, rfl, hB, G⟩ := hrel
    have d0 : wr.cell? ⟨w.heap.size, 0, none⟩ = some (.int .i64 N) := (K1.keep hB).cellv 0 rfl
    have g1 : wr.cell? ⟨w.heap.size + 1, 1, none⟩ = some (.slice AP rs.length cp) := (K2.keep hB).cellv 1 rfl
    have g2 : wr.cell? ⟨w.heap.size + 1, 2, none⟩ = some (.slice AN nodes.length cn) := (K2.keep hB).cellv 2 rfl
    have g3 : wr.cell? ⟨w.heap.size + 1, 3, none⟩ = some (.slice AO outs.length co) := (K2.keep hB).cellv 3 rfl
    clear HE
    by_cases hlt : i < rs.length
    · obtain ⟨b, o, rfl, hcell⟩ := ((HP.out.below hB1).below hB).ix hlt
      have hRd := ((HP.out.below hB1).below hB).2 rs[i] (List.getElem_mem hlt)
      have hcall := fun W n => Lib.hid (fun (h : Rd (World.drewN W n) rs[i].1 (ints .i64 rs[i].2.1)) => rvector_any N t rs[i].1 rs[i].2.1 rs[i].2.2 (World.drewN W n) h (BRs.out i hlt) ht1 t2)
      have HRd := Lib.hid hRd
      have G2 : Hid (grE N t inp (rs.map (·.2.1)) nodes outs = if (vecB N t rs[i].2.1 && ((rs.drop (i + 1)).map (·.2.1)).all (vecB N t)) && (nodesGo N t inp rs.length 0 nodes && (depB (depsOf nodes) && outsB nodes.length outs)) then 0 else 2) := Lib.hid (by
        rw [G.out, List.drop_eq_getElem_cons hlt, List.map_cons, List.all_cons])
      clear G hRd
      cases hv : vecB N t rs[i].2.1 with
      | true =>
        rw [hv] at G2
        have G3 := Lib.hid G2.out
        simp only [Bool.true_and] at G3
        have hcall2 := fun W n h => Lib.hid (hv ▸ (hcall W n).out h)
        clear G2 hcall
        go_wp2
        go_quiet ((go_at_call 31; exact quiet_of_eq ((hcall2 _ _ HRd.out).out)))
        go_wp2
        exact ⟨⟨i + 1, by omega, by go_num, bl_drewN hB _, G3⟩, by simp [intOf]; omega⟩
      | false =>
        rw [hv] at G2
        have hr : Hid (grE N t inp (rs.map (·.2.1)) nodes outs = 2) := Lib.hid (by rw [G2.out]; simp)
        have hcall2 := fun W n h => Lib.hid (hv ▸ (hcall W n).out h)
        clear G2 hcall
        go_wp2
        go_quiet ((go_at_call 31; exact quiet_of_eq ((hcall2 _ _ HRd.out).out)))
        go_wp2
        go_ret
        exact ⟨ret_int hr.out.symm, bl_drewN (bl_then hB1 hB (Nat.le_refl _)) _⟩
    · have G2 : Hid (grE N t inp (rs.map (·.2.1)) nodes outs = if nodesGo N t inp rs.length 0 nodes && (depB (depsOf nodes) && outsB nodes.length outs) then 0 else 2) := Lib.hid (by
        rw [G.out, List.drop_eq_nil_of_le (by omega)]; rfl)
      clear G
      go_wp2
      have hB2 := bl_then hB1 hB (Nat.le_refl _)
      have K3 := K1.keep hB
      have K4 := K2.keep hB
      obtain ⟨w2, rfl⟩ : ∃ wo : World, wo = wr := ⟨_, rfl⟩
      clear d0 g1 g2 g3 hB K1 K2 hB1
      go_loopw [8] (fun x wr => ∃ i : Nat, i ≤ nodes.length ∧ x = .int .i64 i ∧ Below w2.heap.size w2 wr ∧ Hid (grE N t inp (rs.map (·.2.1)) nodes outs = if nodesGo N t inp rs.length i (nodes.drop i) && (depB (depsOf nodes) && outsB nodes.length outs) then 0 else 2) ∧ Hid (nodesGo N t inp rs.length 0 nodes = nodesGo N t inp rs.length i (nodes.drop i))) (fun x _ => nodes.length - (intOf x).toNat)
      case atStart => exact ⟨0, by omega, rfl, Below.refl _ _, G2, Lib.hid rfl⟩
      case round =>
        obtain ⟨j, hj, rfl, hB, G, GN⟩ := hrel
        have d0 : wr.cell? ⟨w.heap.size, 0, none⟩ = some (.int .i64 N) := (K3.keep hB).cellv 0 rfl
        have g0 : wr.cell? ⟨w.heap.size + 1, 0, none⟩ = some (.int .i64 inp) := (K4.keep hB).cellv 0 rfl
        have g1 : wr.cell? ⟨w.heap.size + 1, 1, none⟩ = some (.slice AP rs.length cp) := (K4.keep hB).cellv 1 rfl
        have g2 : wr.cell? ⟨w.heap.size + 1, 2, none⟩ = some (.slice AN nodes.length cn) := (K4.keep hB).cellv 2 rfl
        have g3 : wr.cell? ⟨w.heap.size + 1, 3, none⟩ = some (.slice AO outs.length co) := (K4.keep hB).cellv 3 rfl
        clear G2
        by_cases hlt : j < nodes.length
        · have hcall := Lib.hid (rnode_any N t inp AP rs.length cp AN cn AO outs.length co nodes j hlt wr ((HNd.out.below hB2).below hB) bN n1 n2 ht1 t2 bP)
          have G3 : Hid (grE N t inp (rs.map (·.2.1)) nodes outs = if (nodeB N t inp rs.length j nodes[j] && nodesGo N t inp rs.length (j + 1) (nodes.drop (j + 1))) && (depB (depsOf nodes) && outsB nodes.length outs) then 0 else 2) := Lib.hid (by
            rw [G.out, nodesGo_drop _ _ _ _ _ _ hlt])
          have GN3 : Hid (nodesGo N t inp rs.length 0 nodes = (nodeB N t inp rs.length j nodes[j] && nodesGo N t inp rs.length (j + 1) (nodes.drop (j + 1)))) := Lib.hid (by
            rw [GN.out, nodesGo_drop _ _ _ _ _ _ hlt])
          clear G GN
          cases hv : nodeB N t inp rs.length j nodes[j] with
          | true =>
            rw [hv] at G3 hcall GN3
            have G4 := Lib.hid G3.out
            have GN4 := Lib.hid GN3.out
            simp only [Bool.true_and] at G4 GN4
            clear G3 GN3 hv
            go_wp2_with fail
            refine hcall.out.mono ?_
            rintro e w' ⟨rfl, hb1⟩
            go_wp2
            exact ⟨⟨j + 1, by omega, by go_num, bl_then hB hb1 (Nat.le_refl _), G4, GN4⟩, by simp [intOf]; omega⟩
          | false =>
            rw [hv] at G3 hcall
            have hr : Hid (grE N t inp (rs.map (·.2.1)) nodes outs = 2) := Lib.hid (by rw [G3.out]; simp)
            clear G3 GN3 hv
            go_wp2_with fail
            refine hcall.out.mono ?_
            rintro e w' ⟨rfl, hb1⟩
            go_wp2
            go_ret
            exact ⟨ret_int hr.out.symm, bl_then hB2 (bl_then hB hb1 (Nat.le_refl _)) (Nat.le_refl _)⟩
        · have GN2 : nodesGo N t inp rs.length 0 nodes = true := by rw [GN.out, List.drop_eq_nil_of_le (by omega)]; rfl
          have hRef := refs_of N t inp rs.length nodes GN2
          have G2 : Hid (grE N t inp (rs.map (·.2.1)) nodes outs = if depB (depsOf nodes) && outsB nodes.length outs then 0 else 2) := Lib.hid (by
            rw [G.out, List.drop_eq_nil_of_le (by omega)]; rfl)
          have hcall := Lib.hid (rdepths_any inp AP rs.length cp AN cn AO outs.length co nodes wr ((HNd.out.below hB2).below hB) bN hRef)
          clear G GN GN2 hRef
          go_wp2_with fail
          refine hcall.out.mono ?_
          rintro e w' ⟨v, rfl, hown, hb1⟩
          have hB3 := bl_then hB2 (bl_then hB hb1 (Nat.le_refl _)) (Nat.le_refl _)
          have K5 := (K3.keep hB).keep hb1
          have K6 := (K4.keep hB).keep hb1
          obtain ⟨AD, cd, rfl, hD, _⟩ := own_rd hown
          have HD := Lib.hid hD
          have hdl := Lib.hid (depsOf_len nodes)
          have hbd : Hid (∀ j (h : j < (depsOf nodes).length), 0 ≤ (depsOf nodes)[j] ∧ (depsOf nodes)[j] ≤ 100000) := Lib.hid fun j h => by
            have := depsOf_bd nodes _ (List.getElem_mem h); omega
          clear hD hown d0 g0 g1 g2 g3 hcall hb1 hB hB2 K3 K4
          go_wp2
          go_loopw [10] (fun x wr => ∃ i : Nat, i ≤ nodes.length ∧ x = .int .i64 i ∧ Below w'.heap.size w' wr ∧ Hid (grE N t inp (rs.map (·.2.1)) nodes outs = if depB ((depsOf nodes).drop i) && outsB nodes.length outs then 0 else 2)) (fun x _ => nodes.length - (intOf x).toNat)
          case atStart => exact ⟨0, by omega, rfl, Below.refl _ _, G2⟩
          case round =>
            obtain ⟨m, hm, rfl, hB, G⟩ := hrel
            clear G2
            by_cases hlt : m < nodes.length
            · have hlt' : m < (depsOf nodes).length := by rw [hdl.out]; exact hlt
              obtain ⟨b, o, rfl, hcell⟩ := (HD.out.below hB).intx hlt'
              have hb2 := hbd.out m hlt'
              have G3 : Hid (grE N t inp (rs.map (·.2.1)) nodes outs = if (decide ((depsOf nodes)[m] ≤ 8) && depB ((depsOf nodes).drop (m + 1))) && outsB nodes.length outs then 0 else 2) := Lib.hid (by
                rw [G.out]; unfold depB; rw [all_drop _ _ _ hlt'])
              clear G
              generalize (depsOf nodes)[m] = dm at *
              by_cases hv : dm ≤ 8
              · have G4 : Hid (grE N t inp (rs.map (·.2.1)) nodes outs = if depB ((depsOf nodes).drop (m + 1)) && outsB nodes.length outs then 0 else 2) := Lib.hid (by
                  rw [G3.out, decide_eq_true hv, Bool.true_and])
                clear G3
                go_wp2
                exact ⟨⟨m + 1, by omega, by go_num, hB, G4⟩, by simp [intOf]; omega⟩
              · have hr : Hid (grE N t inp (rs.map (·.2.1)) nodes outs = 2) := Lib.hid (by rw [G3.out, decide_eq_false hv]; simp)
                clear G3
                go_wp2
                go_ret
                exact ⟨ret_int hr.out.symm, bl_then hB3 hB (Nat.le_refl _)⟩
            · have G2 : Hid (grE N t inp (rs.map (·.2.1)) nodes outs = if outsB nodes.length outs then 0 else 2) := Lib.hid (by
                rw [G.out, List.drop_eq_nil_of_le (by rw [hdl.out]; omega)]; rfl)
              have hB4 := bl_then hB3 hB (Nat.le_refl _)
              have K7 := K6.keep hB
              clear G hB3 K6 K5 HD hdl hbd
              obtain ⟨w3, rfl⟩ : ∃ wo : World, wo = wr := ⟨_, rfl⟩
              go_wp2
              go_loopw [11] (fun x wr => ∃ i : Nat, i ≤ outs.length ∧ x = .int .i64 i ∧ Below w3.heap.size w3 wr ∧ Hid (grE N t inp (rs.map (·.2.1)) nodes outs = if outsB nodes.length (outs.drop i) then 0 else 2)) (fun x _ => outs.length - (intOf x).toNat)
              case atStart => exact ⟨0, by omega, rfl, Below.refl _ _, G2⟩
              case round =>
                obtain ⟨m', hm', rfl, hB', G⟩ := hrel
                clear G2
                have g2 : wr.cell? ⟨w.heap.size + 1, 2, none⟩ = some (.slice AN nodes.length cn) := (K7.keep hB').cellv 2 rfl
                have g3 : wr.cell? ⟨w.heap.size + 1, 3, none⟩ = some (.slice AO outs.length co) := (K7.keep hB').cellv 3 rfl
                by_cases hlt : m' < outs.length
                · obtain ⟨b, o, rfl, hcell⟩ := ((HO.out.below hB4).below hB').intx hlt
                  have G3 : Hid (grE N t inp (rs.map (·.2.1)) nodes outs = if (decide (0 ≤ outs[m']) && decide (outs[m'] < nodes.length)) && outsB nodes.length (outs.drop (m' + 1)) then 0 else 2) := Lib.hid (by
                    rw [G.out]; unfold outsB; rw [all_drop _ _ _ hlt])
                  clear G
                  generalize outs[m'] = dm at *
                  by_cases v1 : dm < 0
                  · have q : decide (dm < 0) = true := decide_eq_true v1
                    have hr : Hid (grE N t inp (rs.map (·.2.1)) nodes outs = 2) := Lib.hid (by rw [G3.out, decide_eq_false (show ¬ 0 ≤ dm by omega)]; simp)
                    clear G3 v1
                    go_wp2
                    go_quiet (fail)
                    go_wp2
                    go_ret
                    exact ⟨ret_int hr.out.symm, bl_drewN (bl_then hB4 hB' (Nat.le_refl _)) _⟩
                  · have q : decide (dm < 0) = false := decide_eq_false v1
                    by_cases v2 : (nodes.length : Int) ≤ dm
                    · have q' : decide ((nodes.length : Int) ≤ dm) = true := decide_eq_true v2
                      have hr : Hid (grE N t inp (rs.map (·.2.1)) nodes outs = 2) := Lib.hid (by rw [G3.out, decide_eq_false (show ¬ dm < nodes.length by omega)]; simp)
                      clear G3 v1
                      go_wp2
                      go_quiet (fail)
                      go_wp2
                      go_ret
                      exact ⟨ret_int hr.out.symm, bl_drewN (bl_then hB4 hB' (Nat.le_refl _)) _⟩
                    · have q' : decide ((nodes.length : Int) ≤ dm) = false := decide_eq_false v2
                      have G4 : Hid (grE N t inp (rs.map (·.2.1)) nodes outs = if outsB nodes.length (outs.drop (m' + 1)) then 0 else 2) := Lib.hid (by
                        rw [G3.out, decide_eq_true (show 0 ≤ dm by omega), decide_eq_true (show dm < nodes.length by omega)]; simp)
                      clear G3
                      go_wp2
                      go_quiet (fail)
                      go_wp2
                      exact ⟨⟨m' + 1, by omega, by go_num, bl_drewN hB' _, G4⟩, by simp [intOf]; omega⟩
                · have hr : Hid (grE N t inp (rs.map (·.2.1)) nodes outs = 0) := Lib.hid (by rw [G.out, List.drop_eq_nil_of_le (by omega)]; rfl)
                  clear G
                  go_wp2
                  go_ret
                  exact ⟨ret_int hr.out.symm, bl_then hB4 hB' (Nat.le_refl _)⟩
end Go.Proofs.Ytidlfjaogjpokaa
