/- The walks of package params: dimensions, powers, and the conditions of Check, each as a contract. -/
import Derived.Test.YtidlfjaogjpokaaModA
namespace Go.Proofs.Ytidlfjaogjpokaa
open Go.RowKit

theorem dim_bits (n : Int) (h : 4 ≤ n) (h' : n ≤ 32) : (Go.bits BinOp.and IntKind.i64 n (n - 1) == 0) = M.dimB n := by
  have key : ∀ k : Fin 29, (Go.bits BinOp.and IntKind.i64 ((k.val : Int) + 4) ((k.val : Int) + 4 - 1) == 0) = M.dimB ((k.val : Int) + 4) := by decide +kernel
  have := key ⟨(n - 4).toNat, by omega⟩
  have e : (((n - 4).toNat : Nat) : Int) + 4 = n := by omega
  simpa only [e] using this

theorem dim_any (n : Int) (w : World) :
    Calls Try.prog 64 #[.int .i64 n] w fun r w' => r = .returned (.bool (M.dimB n)) ∧ w = w' := by
  by_cases h : 4 ≤ n ∧ n ≤ 32
  · obtain ⟨h1, h2⟩ := h
    have hb := dim_bits n h1 h2
    go_enter Try.func64, Try.ntmps64
    go_wp2
    all_goals first
      | (exfalso; omega)
      | (go_ret; exact ⟨ret_bool (by first | exact hb | simp_all), rfl⟩)
  · have hr : Hid (M.dimB n = false) := Lib.hid (by
      rcases hd : M.dimB n with _ | _
      · rfl
      · have := M.dimB_le n hd; omega)
    go_enter Try.func64, Try.ntmps64
    go_wp2
    all_goals first
      | (exfalso; omega)
      | (go_ret; exact ⟨ret_bool hr.out.symm, rfl⟩)

theorem ppower_any (n p r : Int) (w : World) (hn : 4 ≤ n) (hn' : n ≤ 32) (h0 : 0 ≤ p) (h1 : p < 4294967296) (hr : -9223372036854775808 ≤ r) (hr' : r ≤ 9223372036854775807) :
    Calls Try.prog 48 #[.int .i64 n, .int .u32 p, .int .i64 r] w fun e w' => e = .returned (.int .i64 (M.plainOf M.primeP n p r)) ∧ Below w.heap.size w w' := by
  go_enter Try.func48, Try.ntmps48
  go_wp2_with (go_at_call 66; refine (prime_any _ _ h0 h1).mono ?_; rintro e w' ⟨rfl, hb⟩)
  any_goals
    go_ret
    exact ⟨ret_int (by rw [M.plainOf, if_pos (by simp [*])]), by first | exact Below.refl _ _ | assumption⟩
  have p3 : 3 ≤ p := by assumption
  have p4 : p < 65536 := by assumption
  have r1 : 1 ≤ r := by assumption
  have hq : M.primeP p = true := by assumption
  have hm : p % (2 * n) = 1 := by assumption
  have HE : Hid (M.plainOf M.primeP n p r = M.plainGo p r.toNat 1) := Lib.hid (by rw [M.plainOf, if_neg (by rw [hq, hm]; simp; omega)])
  clear hq hm
  go_loop [7, 32] (fun x y => ∃ (k : Nat) (t : Int), (k : Int) ≤ r ∧ x = .int .i64 t ∧ y = .int .i64 k ∧ 1 ≤ t ∧ t ≤ 2147483647 ∧ Hid (M.plainOf M.primeP n p r = M.plainGo p (r.toNat - k) t)) (fun _ y => (r - intOf y).toNat)
  case atStart => exact ⟨0, 1, by omega, rfl, rfl, by omega, by omega, HE⟩
  case round =>
    obtain ⟨k, t, g1, rfl, rfl, g2, g3, G4⟩ := hrel
    clear HE
    have b1 : t * p ≤ 2147483647 * 65535 := Int.mul_le_mul g3 (by omega) (by omega) (by omega)
    have b2 : 1 * 3 ≤ t * p := Int.mul_le_mul g2 p3 (by omega) (by omega)
    by_cases hlt : (k : Int) < r
    · have G5 : Hid (M.plainOf M.primeP n p r = if t * p > 2147483647 then 0 else M.plainGo p (r.toNat - (k + 1)) (t * p)) := Lib.hid (by rw [G4.out, show r.toNat - k = (r.toNat - (k + 1)) + 1 from by omega, M.plainGo])
      clear G4
      by_cases hbig : 2147483647 < t * p
      · have G6 := Lib.hid (G5.out.trans (if_pos hbig))
        clear G5
        go_wp2
        go_ret
        exact ⟨ret_int G6.out.symm, by assumption⟩
      · have G6 := Lib.hid (G5.out.trans (if_neg hbig))
        clear G5
        go_wp2
        exact ⟨⟨k + 1, _, by omega, rfl, by go_num, by omega, by omega, G6⟩, by simp [intOf]; omega⟩
    · have G6 : Hid (M.plainOf M.primeP n p r = t) := Lib.hid (by rw [G4.out, show r.toNat - k = 0 from by omega]; rfl)
      clear G4
      go_wp2
      go_ret
      exact ⟨ret_int G6.out.symm, by assumption⟩

/-- what the closure 'prime' of Check tells of a number, s being the step -/
def qOf (s q : Int) : Bool := decide (1073741824 < q) && decide (q ≤ 2147483647) && (q % s == 1) && M.primeP q
theorem qOf_good (n t q : Int) : qOf (2 * n * t) q = M.goodOf M.primeP n t q := by
  unfold qOf M.goodOf
  cases decide (1073741824 < q) <;> cases decide (q ≤ 2147483647) <;> cases M.primeP q <;> simp

theorem check1_any (q s : Int) (b : Nat) (w : World) (hc : w.cell? ⟨b, 0, none⟩ = some (.int .i64 s)) (h0 : 0 ≤ q) (h1 : q < 4294967296) (hs : 1 ≤ s) (hs' : s ≤ 9223372036854775807) :
    Calls Try.prog 65 #[.int .u32 q, .pointer (some ⟨b, 0, none⟩)] w fun e w' => e = .returned (.bool (qOf s q)) ∧ Below w.heap.size w w' := by
  have hm := mod_bd q s (by omega)
  go_enter Try.func65, Try.ntmps65
  go_wp2_with (go_at_call 66; refine (prime_any _ _ h0 h1).mono ?_; rintro e w' ⟨rfl, hb⟩)
  all_goals
    go_ret
    exact ⟨ret_bool (by unfold qOf; first | (simp [*]; done) | (simp [*]; omega)), by first | exact Below.refl _ _ | assumption⟩

theorem check2_any (t : Int) (b : Nat) (w : World) (hc : w.cell? ⟨b, 0, none⟩ = some (.int .i64 t)) :
    Calls Try.prog 67 #[.pointer (some ⟨b, 0, none⟩)] w fun e w' => e = .returned (.bool (decide (0 < t))) ∧ w = w' := by
  go_enter Try.func67, Try.ntmps67
  go_wp2
  go_ret
  exact ⟨rfl, rfl⟩

theorem check3_any (A : Option Addr) (n c : Nat) (b : Nat) (w : World) (hc : w.cell? ⟨b, 3, none⟩ = some (.slice A n c)) :
    Calls Try.prog 68 #[.pointer (some ⟨b, 0, none⟩)] w fun e w' => e = .returned (.bool (decide ((1 : Int) ≤ n) && decide ((n : Int) ≤ 24))) ∧ w = w' := by
  go_enter Try.func68, Try.ntmps68
  go_wp2
  all_goals
    go_ret
    exact ⟨ret_bool (by first | (simp [*]; done) | (simp [*]; omega)), rfl⟩

theorem check4_any (N wt er : Int) (b : Nat) (w : World) (hc0 : w.cell? ⟨b, 0, none⟩ = some (.int .i64 N)) (hc5 : w.cell? ⟨b, 5, none⟩ = some (.int .i64 wt)) (hc6 : w.cell? ⟨b, 6, none⟩ = some (.int .u32 er)) :
    Calls Try.prog 69 #[.pointer (some ⟨b, 0, none⟩)] w fun e w' => e = .returned (.bool (decide (1 ≤ wt) && decide (wt ≤ N) && decide (er ≤ 64))) ∧ w = w' := by
  go_enter Try.func69, Try.ntmps69
  go_wp2
  all_goals
    go_ret
    exact ⟨ret_bool (by first | (simp [*]; done) | (simp [*]; omega)), rfl⟩

theorem check5_any (sp s : Int) (b f g : Nat) (w : World) (hc4 : w.cell? ⟨b, 4, none⟩ = some (.int .u32 sp)) (hf : w.cell? ⟨f, 0, none⟩ = some (.func (.func 65) #[] #[.pointer (some ⟨g, 0, none⟩)]))
    (hg : w.cell? ⟨g, 0, none⟩ = some (.int .i64 s)) (h0 : 0 ≤ sp) (h1 : sp < 4294967296) (hs : 1 ≤ s) (hs' : s ≤ 9223372036854775807) :
    Calls Try.prog 70 #[.pointer (some ⟨f, 0, none⟩), .pointer (some ⟨b, 0, none⟩)] w fun e w' => e = .returned (.bool (qOf s sp)) ∧ Below w.heap.size w w' := by
  go_enter Try.func70, Try.ntmps70
  go_wp2_with (go_at_call 65; refine (check1_any _ s _ _ hg h0 h1 hs hs').mono ?_; rintro e w' ⟨rfl, hb⟩)
  go_ret
  exact ⟨rfl, hb⟩

theorem check61_any (q sp s : Int) (b f g : Nat) (w : World) (hc4 : w.cell? ⟨b, 4, none⟩ = some (.int .u32 sp)) (hf : w.cell? ⟨f, 0, none⟩ = some (.func (.func 65) #[] #[.pointer (some ⟨g, 0, none⟩)]))
    (hg : w.cell? ⟨g, 0, none⟩ = some (.int .i64 s)) (h0 : 0 ≤ q) (h1 : q < 4294967296) (hs : 1 ≤ s) (hs' : s ≤ 9223372036854775807) :
    Calls Try.prog 73 #[.int .u32 q, .pointer (some ⟨b, 0, none⟩), .pointer (some ⟨f, 0, none⟩)] w fun e w' => e = .returned (.bool (decide (sp ≤ q) || !qOf s q)) ∧ Below w.heap.size w w' := by
  go_enter Try.func73, Try.ntmps73
  go_wp2_with (go_at_call 65; refine (check1_any _ s _ _ hg h0 h1 hs hs').mono ?_; rintro e w' ⟨rfl, hb⟩)
  all_goals
    go_ret
    exact ⟨ret_bool (by first | (simp [*]; done) | (simp [*]; omega)), by first | exact Below.refl _ _ | assumption⟩
end Go.Proofs.Ytidlfjaogjpokaa
