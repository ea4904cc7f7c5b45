/- How much Groups saves. -/
import Derived.Test.YtidlfjaogjpokaaLawC
namespace Go.Proofs.Ytidlfjaogjpokaa
open Go.RowKit

def sumG (ls : List (List Int)) : Int := (ls.map fun l => (l.length : Int) - 1).sum
theorem sumG_snoc (ls : List (List Int)) (l : List Int) : sumG (ls ++ [l]) = sumG ls + ((l.length : Int) - 1) := by simp [sumG]
theorem sumG_bd (ls : List (List Int)) (h : ∀ l ∈ ls, l.length ≤ 100000) : -(ls.length : Int) ≤ sumG ls ∧ sumG ls ≤ 100000 * ls.length := by
  induction ls with
  | nil => simp [sumG]
  | cons l ls ih =>
    have h1 := ih fun x hx => h x (by simp [hx])
    have h2 := h l (by simp)
    have h3 : sumG (l :: ls) = ((l.length : Int) - 1) + sumG ls := by simp [sumG]
    rw [h3]
    simp only [List.length_cons]
    omega
theorem groups_rows {nodes : List Nd} {rows : List RowT} (h : rows.map (·.2.1) = (grpOf nodes).map (·.2)) (hn : nodes.length ≤ 400) : rows.length ≤ 400 ∧ ∀ r ∈ rows, r.2.1.length ≤ 400 := by
  have h1 : rows.length = (grpOf nodes).length := by have := congrArg List.length h; simpa using this
  refine ⟨by have := grpOf_len nodes; omega, fun r hr => ?_⟩
  have h2 : r.2.1 ∈ (grpOf nodes).map (·.2) := by rw [← h]; exact List.mem_map.2 ⟨r, hr, rfl⟩
  obtain ⟨g, hg, e⟩ := List.mem_map.1 h2
  have h3 := short_of nodes g hg
  have e' : g.2 = r.2.1 := e
  rw [e'] at h3
  omega
theorem saved_err (N pr pw sp wt er : Int) (A : Option Addr) (l : List Int) (c : Nat) (inp : Int) (AP : Option Addr) (rs : List RowT) (cp : Nat) (AN : Option Addr) (nodes : List Nd) (cn : Nat) (AO : Option Addr) (outs : List Int) (co : Nat)
    (w : World) (hl : Rd w A (ints .u32 l)) (hc : l.length ≤ c) (hb : ∀ q ∈ l, 0 ≤ q ∧ q < 4294967296)
    (p0 : 0 ≤ pr) (p1 : pr < 4294967296) (r0 : -9223372036854775808 ≤ pw) (r1 : pw ≤ 9223372036854775807) (s0 : 0 ≤ sp) (s1 : sp < 4294967296) (hlen : l.length ≤ 100000)
    (hP : Rws w AP rs) (hN : Nds w AN nodes) (hO : Rd w AO (ints .i64 outs)) (bP : rs.length ≤ 100000) (bR : ∀ r ∈ rs, r.2.1.length ≤ 100000) (bN : nodes.length ≤ 100000) (bO : outs.length ≤ 100000)
    (bK : ∀ x ∈ nodes, -9223372036854775808 ≤ x.1 ∧ x.1 ≤ 9223372036854775807)
    (E : Int) (hE : gE M.primeP N pr pw l sp wt er inp (rs.map (·.2.1)) nodes outs = E) (hE0 : (E != 0) = true) :
    Calls Try.prog 10 #[.agg #[.int .i64 N, .int .u32 pr, .int .i64 pw, .slice A l.length c, .int .u32 sp, .int .i64 wt, .int .u32 er], .agg #[.int .i64 inp, .slice AP rs.length cp, .slice AN nodes.length cn, .slice AO outs.length co]] w fun e w' => e = .returned (.tuple #[.int .i64 0, .int .i64 E]) ∧ Below w.heap.size w w' := by
  have hBo : ∀ o o', Below w.heap.size w ((w.alloc o).alloc o') := fun o o' => ((Below.refl _ _).alloc (Nat.le_refl _) o).alloc (by simp) o'
  have H1 := fun o o' => Lib.hid (groups_err N pr pw sp wt er A l c inp AP rs cp AN nodes cn AO outs co ((w.alloc o).alloc o') ((hl.alloc o).alloc o') hc hb p0 p1 r0 r1 s0 s1 hlen ((hP.alloc o).alloc o') ((hN.alloc o).alloc o') ((hO.alloc o).alloc o') bP bR bN bO bK E hE hE0)
  clear hl hb hP hN hO bR bK hE
  go_enter Try.func10, Try.ntmps10
  go_wp2_with fail
  refine (H1 _ _).out.mono ?_
  rintro e w' ⟨rfl, hb1⟩
  have hB1 := bl_then (hBo _ _) hb1 (by simp)
  clear H1 hBo hb1
  go_wp2
  go_loopw [8, 19] (fun x y wr => x = .int .i64 0 ∧ y = .int .i64 0 ∧ Below w.heap.size w wr) (fun _ y _ => 0)
  case atStart => exact ⟨rfl, rfl, hB1⟩
  case round =>
    obtain ⟨rfl, rfl, hBr⟩ := hrel
    go_wp2
    go_ret2
    exact ⟨rfl, hBr⟩
theorem saved_ok (N pr pw sp wt er : Int) (A : Option Addr) (l : List Int) (c : Nat) (inp : Int) (AP : Option Addr) (rs : List RowT) (cp : Nat) (AN : Option Addr) (nodes : List Nd) (cn : Nat) (AO : Option Addr) (outs : List Int) (co : Nat)
    (w : World) (hl : Rd w A (ints .u32 l)) (hc : l.length ≤ c) (hb : ∀ q ∈ l, 0 ≤ q ∧ q < 4294967296)
    (p0 : 0 ≤ pr) (p1 : pr < 4294967296) (r0 : -9223372036854775808 ≤ pw) (r1 : pw ≤ 9223372036854775807) (s0 : 0 ≤ sp) (s1 : sp < 4294967296) (hlen : l.length ≤ 100000)
    (hP : Rws w AP rs) (hN : Nds w AN nodes) (hO : Rd w AO (ints .i64 outs)) (bP : rs.length ≤ 100000) (bR : ∀ r ∈ rs, r.2.1.length ≤ 100000) (bN : nodes.length ≤ 100000) (bO : outs.length ≤ 100000)
    (bK : ∀ x ∈ nodes, -9223372036854775808 ≤ x.1 ∧ x.1 ≤ 9223372036854775807)
    (hE : gE M.primeP N pr pw l sp wt er inp (rs.map (·.2.1)) nodes outs = 0) :
    Calls Try.prog 10 #[.agg #[.int .i64 N, .int .u32 pr, .int .i64 pw, .slice A l.length c, .int .u32 sp, .int .i64 wt, .int .u32 er], .agg #[.int .i64 inp, .slice AP rs.length cp, .slice AN nodes.length cn, .slice AO outs.length co]] w fun e w' => e = .returned (.tuple #[.int .i64 (sumG ((grpOf nodes).map (·.2))), .int .i64 0]) ∧ Below w.heap.size w w' := by
  have hBo : ∀ o o', Below w.heap.size w ((w.alloc o).alloc o') := fun o o' => ((Below.refl _ _).alloc (Nat.le_refl _) o).alloc (by simp) o'
  have H1 := fun o o' => Lib.hid (groups_ok N pr pw sp wt er A l c inp AP rs cp AN nodes cn AO outs co ((w.alloc o).alloc o') ((hl.alloc o).alloc o') hc hb p0 p1 r0 r1 s0 s1 hlen ((hP.alloc o).alloc o') ((hN.alloc o).alloc o') ((hO.alloc o).alloc o') bP bR bN bO bK hE)
  have hn4 := (grE_zero (gE_zero hE).2).1
  clear hl hb hP hN hO bR bK hE
  go_enter Try.func10, Try.ntmps10
  go_wp2_with fail
  refine (H1 _ _).out.mono ?_
  rintro e w' ⟨AR, cr, rows, rfl, hrows, hR, hcr, hb1⟩
  have hB1 := bl_then (hBo _ _) hb1 (by simp)
  obtain ⟨q1, q2⟩ := groups_rows hrows hn4
  have HR := Lib.hid hR
  have HW := Lib.hid hrows
  have Q2 := Lib.hid q2
  clear H1 hBo hb1 hR hrows q2
  go_wp2
  go_loopw [8, 19] (fun x y wr => ∃ k : Nat, k ≤ rows.length ∧ x = .int .i64 (sumG ((rows.map (·.2.1)).take k)) ∧ y = .int .i64 k ∧ Below w.heap.size w wr ∧ Below w'.heap.size w' wr) (fun _ y _ => rows.length - (intOf y).toNat)
  case atStart => exact ⟨0, by omega, rfl, rfl, hB1, Below.refl _ _⟩
  case round =>
    obtain ⟨k, hk, rfl, rfl, hBr, hBw⟩ := hrel
    by_cases hlt : k < rows.length
    · obtain ⟨b, o, rfl, e1⟩ := (HR.out.below hBw).ix hlt
      have hq := Q2.out _ (List.getElem_mem hlt)
      have e2 : sumG ((rows.map (·.2.1)).take (k + 1)) = sumG ((rows.map (·.2.1)).take k) + ((rows[k].2.1.length : Int) - 1) := by
        rw [List.take_succ_eq_append_getElem (by simpa using hlt), sumG_snoc, List.getElem_map]
      have hbd := sumG_bd ((rows.map (·.2.1)).take k) (fun x hx => by
        obtain ⟨r, hr, rfl⟩ := List.mem_map.1 (List.mem_of_mem_take hx)
        have := Q2.out r hr
        omega)
      rw [List.length_take, List.length_map] at hbd
      have hmk : min k rows.length = k := by omega
      rw [hmk] at hbd
      have E2 := Lib.hid e2
      clear e2 hmk
      have p1 : decide (k < rows.length) = true := decide_eq_true hlt
      generalize sumG ((rows.map (·.2.1)).take k) = S at *
      go_wp2
      exact ⟨⟨k + 1, by omega, by rw [E2.out], by go_num, hBr, hBw⟩, by simp [intOf]; omega⟩
    · have hkl : k = rows.length := by omega
      have hr : Hid (sumG ((rows.map (·.2.1)).take k) = sumG ((grpOf nodes).map (·.2))) := Lib.hid (by rw [List.take_of_length_le (by simp; omega), HW.out])
      have p1 : decide (k < rows.length) = false := decide_eq_false hlt
      clear hkl
      go_wp2
      go_ret2
      exact ⟨by rw [← hr.out]; rfl, hBr⟩
end Go.Proofs.Ytidlfjaogjpokaa
