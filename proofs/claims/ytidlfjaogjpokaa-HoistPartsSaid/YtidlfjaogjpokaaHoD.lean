/- The program's Groups. -/
import Derived.Test.YtidlfjaogjpokaaGraK
import Derived.Test.YtidlfjaogjpokaaHoA
import Derived.Deep.AppendLies
import Derived.Deep.RegionLaw
import Derived.Deep.DeepCutAuto
namespace Go.Proofs.Ytidlfjaogjpokaa
open Go.RowKit Go.Maps Go.ChangeMaps

/-- does a node turn something? -/
def turns (x : Nd) : Bool := x.1 == 10 || (x.1 == 9 && x.2.2.2 != 0)
/-- the nodes that turn something, by their source -/
def grpGo (gs : List (Int × List Int)) (i : Nat) : List Nd → List (Int × List Int)
  | [] => gs
  | x :: l => grpGo (if turns x then addG gs x.2.1 i else gs) (i + 1) l
def grpOf (l : List Nd) : List (Int × List Int) := grpGo [] 0 l
theorem grpGo_append (l l' : List Nd) : ∀ gs i, grpGo gs i (l ++ l') = grpGo (grpGo gs i l) (i + l.length) l' := by
  induction l with
  | nil => intro gs i; rfl
  | cons x l ih => intro gs i; rw [List.cons_append, grpGo, ih, grpGo, List.length_cons, Nat.add_assoc, Nat.add_comm 1]
theorem grpOf_snoc (l : List Nd) (i : Nat) (h : i < l.length) : grpOf (l.take (i + 1)) = if turns l[i] then addG (grpOf (l.take i)) l[i].2.1 i else grpOf (l.take i) := by
  unfold grpOf
  rw [List.take_succ_eq_append_getElem h, grpGo_append, List.length_take, Nat.zero_add, Nat.min_eq_left (by omega)]
  rfl
theorem addG_len (gs : List (Int × List Int)) (a i : Int) : (addG gs a i).length ≤ gs.length + 1 := by
  induction gs with
  | nil => simp [addG]
  | cons g gs ih => obtain ⟨k, l⟩ := g; rw [addG]; split <;> simp <;> omega
theorem grpGo_len (l : List Nd) : ∀ gs i, (grpGo gs i l).length ≤ gs.length + l.length := by
  induction l with
  | nil => intro gs i; simp [grpGo]
  | cons x l ih =>
    intro gs i
    rw [grpGo]
    refine Nat.le_trans (ih _ _) ?_
    split
    · have := addG_len gs x.2.1 i; simp; omega
    · simp
theorem grpOf_len (l : List Nd) : (grpOf l).length ≤ l.length := by
  have := grpGo_len l [] 0
  simpa [grpOf] using this
/-- how long the lists are -/
def Short (gs : List (Int × List Int)) (n : Nat) : Prop := ∀ g ∈ gs, g.2.length ≤ n
theorem short_add {gs : List (Int × List Int)} {n : Nat} (h : Short gs n) (a i : Int) : Short (addG gs a i) (n + 1) := by
  induction gs with
  | nil => intro g hg; simp [addG] at hg; subst hg; simp
  | cons g0 gs ih =>
    obtain ⟨k, l⟩ := g0
    intro g hg
    rw [addG] at hg
    have h0 := h (k, l) (by simp)
    have h1 := ih fun g hg => h g (by simp [hg])
    split at hg
    · rcases List.mem_cons.1 hg with rfl | hg
      · simpa using h0
      · exact Nat.le_succ_of_le (h g (by simp [hg]))
    · rcases List.mem_cons.1 hg with rfl | hg
      · exact Nat.le_succ_of_le h0
      · exact h1 g hg
theorem short_mono {gs : List (Int × List Int)} {n m : Nat} (h : Short gs n) (hn : n ≤ m) : Short gs m := fun g hg => Nat.le_trans (h g hg) hn
theorem short_grp (l : List Nd) : ∀ gs i n, Short gs n → Short (grpGo gs i l) (n + l.length) := by
  induction l with
  | nil => intro gs i n h; exact h
  | cons x l ih =>
    intro gs i n h
    rw [grpGo]
    split
    · have := ih _ (i + 1) (n + 1) (short_add h x.2.1 i)
      rw [List.length_cons, Nat.add_comm l.length 1, ← Nat.add_assoc]; exact this
    · exact short_mono (ih _ (i + 1) n h) (by simp)
theorem short_of (l : List Nd) : Short (grpOf l) l.length := by
  have := short_grp l [] 0 0 (by intro g hg; simp at hg)
  simpa [grpOf] using this
theorem LookG.short {gs : List (Int × List Int)} {es : List MapEntry} {a : Int} {v : Value} {l : List Int} {n : Nat} (h : LookG gs es a v l) (hs : Short gs n) : l.length ≤ n := by
  rcases h with ⟨j, hj, hj', _, _, rfl⟩ | ⟨_, _, rfl⟩
  · exact hs _ (List.getElem_mem hj')
  · simp
theorem MapB.drewN {w : World} {b clock : Nat} {es : List MapEntry} (h : MapB w b es clock) (n : Nat) : MapB (w.drewN n) b es clock := h
theorem GrpM.below {w w' : World} {base b : Nat} {es : List MapEntry} {gs : List (Int × List Int)} (h : GrpM w base b es gs) (hb : Below w.heap.size w w') : GrpM w' base b es gs := h.keep hb
theorem GrpM.alloc {w : World} {base b : Nat} {es : List MapEntry} {gs : List (Int × List Int)} (h : GrpM w base b es gs) (o : Obj) : GrpM (w.alloc o) base b es gs := h.keep ((Below.refl _ _).alloc (Nat.le_refl _) _)

theorem blk_not_row {W : World} {B : Nat} {t e : TypeId} {cs : Array Value} (h : Blk W B t cs) (hte : t ≠ e) {base size k : Nat} {v : Value} {xs : List Value} (hr : W.ownsRow base e size v k xs) : some B ≠ v.ownBlock := by
  rcases hr.2 with ⟨rfl, _⟩ | ⟨g, cap, cur, rfl, _, hgb, _⟩
  · simp [Value.ownBlock]
  · intro e'
    obtain rfl : B = g := by simpa [Value.ownBlock] using e'
    have := (show W.heap[B]? = _ from h).symm.trans hgb
    simp at this
    exact hte this.2
/-- what Groups returns where the graph is no valid one -/
theorem groups_err (N pr pw sp wt er : Int) (A : Option Addr) (l : List Int) (c : Nat) (inp : Int) (AP : Option Addr) (rs : List RowT) (cp : Nat) (AN : Option Addr) (nodes : List Nd) (cn : Nat) (AO : Option Addr) (outs : List Int) (co : Nat)
    (w : World) (hl : Rd w A (ints .u32 l)) (hc : l.length ≤ c) (hb : ∀ q ∈ l, 0 ≤ q ∧ q < 4294967296)
    (p0 : 0 ≤ pr) (p1 : pr < 4294967296) (r0 : -9223372036854775808 ≤ pw) (r1 : pw ≤ 9223372036854775807) (s0 : 0 ≤ sp) (s1 : sp < 4294967296) (hlen : l.length ≤ 100000)
    (hP : Rws w AP rs) (hN : Nds w AN nodes) (hO : Rd w AO (ints .i64 outs)) (bP : rs.length ≤ 100000) (bR : ∀ r ∈ rs, r.2.1.length ≤ 100000) (bN : nodes.length ≤ 100000) (bO : outs.length ≤ 100000)
    (bK : ∀ x ∈ nodes, -9223372036854775808 ≤ x.1 ∧ x.1 ≤ 9223372036854775807)
    (E : Int) (hE : gE M.primeP N pr pw l sp wt er inp (rs.map (·.2.1)) nodes outs = E) (hE0 : (E != 0) = true) :
    Calls Try.prog 6 #[.agg #[.int .i64 N, .int .u32 pr, .int .i64 pw, .slice A l.length c, .int .u32 sp, .int .i64 wt, .int .u32 er], .agg #[.int .i64 inp, .slice AP rs.length cp, .slice AN nodes.length cn, .slice AO outs.length co]] w fun e w' => e = .returned (.tuple #[.slice none 0 0, .int .i64 E]) ∧ Below w.heap.size w w' := by
  have hBo : ∀ o o', Below w.heap.size w ((w.alloc o).alloc o') := fun o o' => ((Below.refl _ _).alloc (Nat.le_refl _) o).alloc (by simp) o'
  have H1 := fun o o' => Lib.hid (pgcheck_any N pr pw sp wt er A l c inp AP rs cp AN nodes cn AO outs co ((w.alloc o).alloc o') ((hl.alloc o).alloc o') hc hb p0 p1 r0 r1 s0 s1 hlen ((hP.alloc o).alloc o') ((hN.alloc o).alloc o') ((hO.alloc o).alloc o') bP bR bN bO bK)
  rw [hE] at H1
  clear hl hb hP hN hO bR bK hE
  go_enter Try.func6, Try.ntmps6
  go_wp2_with fail
  refine (H1 _ _).out.mono ?_
  rintro e w' ⟨rfl, hb1⟩
  go_wp2
  go_ret2
  exact ⟨rfl, bl_then (hBo _ _) hb1 (by simp)⟩

end Go.Proofs.Ytidlfjaogjpokaa
