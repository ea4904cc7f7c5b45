/- The walks of the reference of layer 1: products, powers, the strong test, primes. -/
import Derived.Test.YtidlfjaogjpokaaModA
namespace Go.Proofs.Ytidlfjaogjpokaa
open Go.RowKit

theorem times_any (a b n : Int) (w : World) (ha : 0 ≤ a) (ha' : a < 4294967296) (hb : 0 ≤ b) (hb' : b < 4294967296) (hn : 1 ≤ n) (hn' : n < 4294967296) :
    Calls Try.prog 63 #[.int .u32 a, .int .u32 b, .int .u32 n] w fun e w' => e = .returned (.int .u32 (a * b % n)) ∧ w = w' := by
  have hab := mul_bd ha ha' hb hb'
  have hm := mod_bd (a * b) n (by omega)
  go_enter Try.func63, Try.ntmps63
  go_wp2
  go_ret
  exact ⟨rfl, rfl⟩

theorem rpower_any (a e n : Int) (w : World) (ha : 0 ≤ a) (ha' : a < 4294967296) (he : 0 ≤ e) (he' : e < 18446744073709551616) (hn : 2 ≤ n) (hn' : n < 4294967296) :
    Calls Try.prog 62 #[.int .u32 a, .int .u64 e, .int .u32 n] w fun r w' => r = .returned (.int .u32 (M.pow a e n)) ∧ w = w' := by
  have HR : Hid (M.powGo n 64 1 a e = M.pow a e n) := Lib.hid rfl
  go_enter Try.func62, Try.ntmps62
  go_wp2
  go_loop [0, 1, 7] (fun x y z => ∃ (k : Nat) (a' e' o' : Int), x = .int .u32 a' ∧ y = .int .u64 e' ∧ z = .int .u32 o' ∧ 0 ≤ a' ∧ a' < 4294967296 ∧ 0 ≤ e' ∧ e' < 2 ^ k ∧ k ≤ 64 ∧ 0 ≤ o' ∧ o' < n ∧ Hid (M.powGo n k o' a' e' = M.pow a e n)) (fun _ y _ => (intOf y).toNat)
  case atStart => exact ⟨64, a, e, 1, rfl, rfl, rfl, ha, ha', he, by omega, by omega, by omega, by omega, HR⟩
  case round =>
    obtain ⟨k, a', e', o', rfl, rfl, rfl, h1, h2, h3, h4, h5, h6, h7, H8⟩ := hrel
    clear HR
    have h64 : e' < 18446744073709551616 := Int.lt_of_lt_of_le h4 (by have : (2 : Int) ^ k ≤ 2 ^ 64 := by exact_mod_cast Nat.pow_le_pow_right (by omega) h5
                                                                      omega)
    by_cases hz : 0 < e'
    · obtain ⟨j, rfl⟩ : ∃ j, k = j + 1 := ⟨k - 1, by have : k ≠ 0 := by { intro hk; subst hk; simp at h4; omega }
                                                     omega⟩
      have h4' : e' / 2 < 2 ^ j := by
        have : (2 : Int) ^ (j + 1) = 2 ^ j * 2 := by rw [Int.pow_succ]
        have h4'' := h4
        rw [this] at h4''
        generalize (2 : Int) ^ j = q at h4'' ⊢
        omega
      have H9 : Hid (M.powGo n j (if e' % 2 = 1 then o' * a' % n else o') (a' * a' % n) (e' / 2) = M.pow a e n) := by
        have := H8.out; rwa [M.powGo_step _ _ _ _ _ hz] at this
      clear H8 h4
      have hm1 := mod_bd (o' * a') n (by omega)
      have hm2 := mod_bd (a' * a') n (by omega)
      by_cases hb : e' % 2 = 1
      · have hbit : (e' % 2 == 1) = true := by simpa using hb
        have H10 : Hid (M.powGo n j (o' * a' % n) (a' * a' % n) (e' / 2) = M.pow a e n) := by have := H9.out; rwa [if_pos hb] at this
        clear H9 hb
        go_wp2_with (go_at_call 63; refine (times_any _ _ n _ (by omega) (by omega) (by omega) (by omega) (by omega) hn').mono ?_; rintro e w' ⟨rfl, rfl⟩)
        exact ⟨⟨j, _, _, _, rfl, rfl, rfl, by omega, by omega, by omega, h4', by omega, by omega, by omega, H10⟩, by simp [intOf]; omega⟩
      · have hbit : (e' % 2 == 1) = false := by simpa using hb
        have H10 : Hid (M.powGo n j o' (a' * a' % n) (e' / 2) = M.pow a e n) := by have := H9.out; rwa [if_neg hb] at this
        clear H9 hb
        go_wp2_with (go_at_call 63; refine (times_any _ _ n _ (by omega) (by omega) (by omega) (by omega) (by omega) hn').mono ?_; rintro e w' ⟨rfl, rfl⟩)
        exact ⟨⟨j, _, _, _, rfl, rfl, rfl, by omega, by omega, by omega, h4', by omega, by omega, by omega, H10⟩, by simp [intOf]; omega⟩
    · have hr : Hid (o' = M.pow a e n) := by have := H8.out; rwa [M.powGo_stop _ _ _ _ _ (by omega)] at this
      clear H8 h4
      obtain rfl : e' = 0 := by omega
      go_wp2
      go_ret
      exact ⟨ret_int hr.out, rfl⟩

theorem strong_any (a n : Int) (w : World) (ha : 0 ≤ a) (ha' : a < 4294967296) (hn : 3 ≤ n) (hn' : n < 4294967296) :
    Calls Try.prog 46 #[.int .u32 a, .int .u32 n] w fun r w' => r = .returned (.bool (M.strong a n)) ∧ w = w' := by
  have hs := M.odd_spec n hn hn'
  have hl := M.odd_lt n hn hn'
  have HF : Hid (n - 1 = M.odd n * 2 ^ (M.twos n).toNat) := Lib.hid hs.2.2.2.2
  obtain ⟨hs1, hs2, hs3, hs4, -⟩ := hs
  have HR : Hid (M.oddGo 32 (n - 1) 0 = (M.odd n, M.twos n)) := Lib.hid rfl
  have hm := mod_bd a n (by omega)
  go_enter Try.func46, Try.ntmps46
  go_wp2
  go_loop [5] (fun x => ∃ (k : Nat) (d s : Int), x = .int .u32 d ∧ 0 < d ∧ d < 2 ^ k ∧ k ≤ 32 ∧ Hid (M.oddGo k d s = (M.odd n, M.twos n))) (fun x => (intOf x).toNat)
  case atStart => exact ⟨32, n - 1, 0, rfl, by omega, by omega, by omega, HR⟩
  case round =>
    obtain ⟨k, d, s, rfl, h1, h2, h3, H6⟩ := hrel
    clear HR
    have h32 : d < 4294967296 := Int.lt_of_lt_of_le h2 (by have : (2 : Int) ^ k ≤ 2 ^ 32 := by exact_mod_cast Nat.pow_le_pow_right (by omega) h3
                                                           omega)
    by_cases hz : d % 2 = 0
    · obtain ⟨j, rfl⟩ : ∃ j, k = j + 1 := ⟨k - 1, by have : k ≠ 0 := by { intro hk; subst hk; simp at h2; omega }
                                                     omega⟩
      have h4' : d / 2 < 2 ^ j := by
        have : (2 : Int) ^ (j + 1) = 2 ^ j * 2 := by rw [Int.pow_succ]
        have h4'' := h2
        rw [this] at h4''
        generalize (2 : Int) ^ j = q at h4'' ⊢
        omega
      have H7 : Hid (M.oddGo j (d / 2) (s + 1) = (M.odd n, M.twos n)) := by have := H6.out; rwa [M.oddGo_step _ _ _ hz] at this
      have hbit : (d % 2 == 0) = true := by simpa using hz
      have hd2 : 0 < d / 2 := by omega
      clear H6 h2 hz
      go_wp2
      exact ⟨⟨j, _, _, rfl, by omega, h4', by omega, H7⟩, by simp [intOf]; omega⟩
    · have hds : d = M.odd n ∧ s = M.twos n := by have := H6.out; rw [M.oddGo_stop _ _ _ hz] at this; exact Prod.mk.inj this
      obtain ⟨rfl, rfl⟩ := hds
      have hbit : (M.odd n % 2 == 0) = false := by simpa using hz
      have hX0 := M.pow_lt (a % n) (M.odd n) n (by omega)
      have HS : Hid (M.strong a n = (M.pow (a % n) (M.odd n) n == 1 || M.chk n (M.twos n).toNat (M.pow (a % n) (M.odd n) n))) := Lib.hid rfl
      clear H6 h2 hz hs1
      go_wp2_with fail
      refine (rpower_any _ _ _ _ (by omega) (by omega) (by omega) (by omega) (by omega) (by omega)).mono ?_
      rintro e w' ⟨rfl, rfl⟩
      generalize M.pow (a % n) (M.odd n) n = X at HS hX0 ⊢
      by_cases hx1 : X = 1
      · have hr : Hid (M.strong a n = true) := Lib.hid (by rw [HS.out, hx1]; simp)
        clear HS
        subst hx1
        go_wp2
        go_ret
        exact ⟨ret_bool hr.out.symm, rfl⟩
      · obtain ⟨S, hS⟩ : ∃ S : Nat, M.twos n = (S : Int) := ⟨(M.twos n).toNat, by omega⟩
        have hr : Hid (M.strong a n = M.chk n S X) := Lib.hid (by rw [HS.out, hS]; simp [hx1])
        have HF' : Hid (n - 1 = M.odd n * 2 ^ S) := Lib.hid (by have := HF.out; rwa [hS] at this)
        have hq1 : (X == (1 : Int)) = false := by simpa using hx1
        clear hx1 HS hS HF hs3 hs4 hbit
        generalize M.odd n = D at HF' hs2 hl h1 h32 ⊢
        go_wp2
        go_loop [5, 6] (fun y x => ∃ (k : Nat) (X' d : Int), k ≤ S ∧ x = .int .u32 X' ∧ y = .int .u32 d ∧ 0 ≤ X' ∧ X' < n ∧ 0 < d ∧ d ≤ n - 1 ∧ Hid (n - 1 = d * 2 ^ (S - k)) ∧ Hid (M.strong a n = M.chk n (S - k) X')) (fun y _ => (n - intOf y).toNat)
        case atStart => exact ⟨0, X, D, by omega, rfl, rfl, by omega, by omega, by omega, by omega, HF', hr⟩
        case round =>
          obtain ⟨k, X', d, g1, rfl, rfl, g2, g3, g4, g5, G6, G7⟩ := hrel
          clear hr HF'
          have hxx := mul_bd (a := X') (b := X') (by omega) (by omega) (by omega) (by omega)
          have hxm := mod_bd (X' * X') n (by omega)
          by_cases hlt : d < n - 1
          · have hk : k < S := by
              rcases Nat.lt_or_ge k S with h | h
              · exact h
              · have := G6.out; rw [show S - k = 0 from by omega] at this; simp at this; omega
            have hd2 : d * 2 ≤ n - 1 := by
              have h1 := G6.out; rw [show S - k = (S - (k + 1)) + 1 from by omega, Int.pow_succ] at h1
              have h2 : (1 : Int) ≤ 2 ^ (S - (k + 1)) := by exact_mod_cast Nat.one_le_two_pow
              have h3 : (d * 2) * 1 ≤ (d * 2) * 2 ^ (S - (k + 1)) := Int.mul_le_mul_of_nonneg_left h2 (by omega)
              have h4 : (d * 2) * 2 ^ (S - (k + 1)) = d * (2 ^ (S - (k + 1)) * 2) := by rw [Int.mul_assoc, Int.mul_comm 2]
              omega
            have G8 : Hid (n - 1 = d * 2 * 2 ^ (S - (k + 1))) := Lib.hid (by
              have h1 := G6.out; rw [show S - k = (S - (k + 1)) + 1 from by omega, Int.pow_succ] at h1
              rw [h1, Int.mul_assoc, Int.mul_comm 2])
            clear G6
            by_cases hx : X' = n - 1
            · have hr : Hid (M.strong a n = true) := Lib.hid (by rw [G7.out, show S - k = (S - k - 1) + 1 from by omega, M.chk_yes _ _ _ hx])
              have hq : (X' == n - 1) = true := by simpa using hx
              clear hx G7
              go_wp2
              go_ret
              exact ⟨ret_bool hr.out.symm, rfl⟩
            · have hr : Hid (M.strong a n = M.chk n (S - (k + 1)) (X' * X' % n)) := Lib.hid (by rw [G7.out, show S - k = (S - (k + 1)) + 1 from by omega, M.chk_no _ _ _ hx])
              have hq : (X' == n - 1) = false := by simpa using hx
              clear hx G7
              go_wp2_with (go_at_call 63; refine (times_any _ _ n _ (by omega) (by omega) (by omega) (by omega) (by omega) hn').mono ?_; rintro e w' ⟨rfl, rfl⟩)
              exact ⟨⟨k + 1, _, _, by omega, rfl, rfl, by omega, by omega, by omega, by omega, G8, hr⟩, by simp [intOf]; omega⟩
          · have hr : Hid (M.strong a n = false) := Lib.hid (by
              have hk : S - k = 0 := by
                rcases Nat.eq_zero_or_pos (S - k) with h | h
                · exact h
                · have h1 := G6.out; rw [show S - k = (S - k - 1) + 1 from by omega, Int.pow_succ] at h1
                  have h2 : (1 : Int) ≤ 2 ^ (S - k - 1) := by exact_mod_cast Nat.one_le_two_pow
                  have h3 : (d * 2) * 1 ≤ (d * 2) * 2 ^ (S - k - 1) := Int.mul_le_mul_of_nonneg_left h2 (by omega)
                  have h4 : (d * 2) * 2 ^ (S - k - 1) = d * (2 ^ (S - k - 1) * 2) := by rw [Int.mul_assoc, Int.mul_comm 2]
                  omega
              rw [G7.out, hk]; rfl)
            clear G7 G6
            go_wp2
            go_ret
            exact ⟨ret_bool hr.out.symm, rfl⟩

set_option maxRecDepth 100000 in
set_option maxHeartbeats 1000000 in
theorem rprime_any (n : Int) (w : World) (h0 : 0 ≤ n) (hn' : n < 4294967296) :
    Calls Try.prog 34 #[.int .u32 n] w fun r w' => r = .returned (.bool (M.primeR n)) ∧ w = w' := by
  have HP := Lib.hid (show M.primeR n = _ from rfl)
  by_cases h1 : n = 2 ∨ n = 7 ∨ n = 61
  · have hr : Hid (M.primeR n = true) := Lib.hid (by rw [M.primeR, if_pos h1])
    rcases h1 with rfl | rfl | rfl
    all_goals
      go_enter Try.func34, Try.ntmps34
      go_wp2
      go_ret
      exact ⟨ret_bool hr.out.symm, rfl⟩
  · have hr : Hid (M.primeR n = (decide (2 < n) && decide (n % 2 = 1) && decide (0 < n % 7) && decide (0 < n % 61) && M.strong 2 n && M.strong 7 n && M.strong 61 n)) := Lib.hid (by rw [M.primeR, if_neg h1])
    have q1 : (n == 2) = false := by simp; omega
    have q2 : (n == 7) = false := by simp; omega
    have q3 : (n == 61) = false := by simp; omega
    clear h1 HP
    by_cases a1 : ¬ (2 < n)
    · have hr' : Hid (M.primeR n = false) := Lib.hid (by rw [hr.out]; simp [a1])
      clear hr
      go_enter Try.func34, Try.ntmps34
      go_wp2_with (go_at_call 46; refine (strong_any _ _ _ (by omega) (by omega) (by omega) (by omega)).mono ?_; rintro e w' ⟨rfl, rfl⟩)
      go_ret
      exact ⟨ret_bool hr'.out.symm, rfl⟩
    replace a1 := Classical.not_not.1 a1
    by_cases a2 : ¬ (n % 2 = 1)
    · have hr' : Hid (M.primeR n = false) := Lib.hid (by rw [hr.out]; simp [a2])
      have hq : (n % 2 == 1) = false := by simpa using a2
      clear hr a2
      go_enter Try.func34, Try.ntmps34
      go_wp2_with (go_at_call 46; refine (strong_any _ _ _ (by omega) (by omega) (by omega) (by omega)).mono ?_; rintro e w' ⟨rfl, rfl⟩)
      go_ret
      exact ⟨ret_bool hr'.out.symm, rfl⟩
    replace a2 := Classical.not_not.1 a2
    have b2 : (n % 2 == 1) = true := by simpa using a2
    have A2 := Lib.hid a2
    clear a2
    by_cases a3 : ¬ (0 < n % 7)
    · have hr' : Hid (M.primeR n = false) := Lib.hid (by rw [hr.out]; simp [a3])
      clear hr
      go_enter Try.func34, Try.ntmps34
      go_wp2_with (go_at_call 46; refine (strong_any _ _ _ (by omega) (by omega) (by omega) (by omega)).mono ?_; rintro e w' ⟨rfl, rfl⟩)
      go_ret
      exact ⟨ret_bool hr'.out.symm, rfl⟩
    replace a3 := Classical.not_not.1 a3
    by_cases a4 : ¬ (0 < n % 61)
    · have hr' : Hid (M.primeR n = false) := Lib.hid (by rw [hr.out]; simp [a4])
      clear hr
      go_enter Try.func34, Try.ntmps34
      go_wp2_with (go_at_call 46; refine (strong_any _ _ _ (by omega) (by omega) (by omega) (by omega)).mono ?_; rintro e w' ⟨rfl, rfl⟩)
      go_ret
      exact ⟨ret_bool hr'.out.symm, rfl⟩
    replace a4 := Classical.not_not.1 a4
    by_cases s2 : ¬ (M.strong 2 n = true)
    · have hr' : Hid (M.primeR n = false) := Lib.hid (by rw [hr.out]; simp [s2])
      have hq : M.strong 2 n = false := by simpa using s2
      clear hr s2
      go_enter Try.func34, Try.ntmps34
      go_wp2_with (go_at_call 46; refine (strong_any _ _ _ (by omega) (by omega) (by omega) (by omega)).mono ?_; rintro e w' ⟨rfl, rfl⟩)
      go_ret
      exact ⟨ret_bool hr'.out.symm, rfl⟩
    replace s2 := Classical.not_not.1 s2
    by_cases s7 : ¬ (M.strong 7 n = true)
    · have hr' : Hid (M.primeR n = false) := Lib.hid (by rw [hr.out]; simp [s7])
      have hq : M.strong 7 n = false := by simpa using s7
      clear hr s7
      go_enter Try.func34, Try.ntmps34
      go_wp2_with (go_at_call 46; refine (strong_any _ _ _ (by omega) (by omega) (by omega) (by omega)).mono ?_; rintro e w' ⟨rfl, rfl⟩)
      go_ret
      exact ⟨ret_bool hr'.out.symm, rfl⟩
    replace s7 := Classical.not_not.1 s7
    by_cases s61 : ¬ (M.strong 61 n = true)
    · have hr' : Hid (M.primeR n = false) := Lib.hid (by rw [hr.out]; simp [s61])
      have hq : M.strong 61 n = false := by simpa using s61
      clear hr s61
      go_enter Try.func34, Try.ntmps34
      go_wp2_with (go_at_call 46; refine (strong_any _ _ _ (by omega) (by omega) (by omega) (by omega)).mono ?_; rintro e w' ⟨rfl, rfl⟩)
      go_ret
      exact ⟨ret_bool hr'.out.symm, rfl⟩
    replace s61 := Classical.not_not.1 s61
    have hr' : Hid (M.primeR n = true) := Lib.hid (by rw [hr.out]; simp [a1, A2.out, a3, a4, s2, s7, s61])
    clear hr
    go_enter Try.func34, Try.ntmps34
    go_wp2_with (go_at_call 46; refine (strong_any _ _ _ (by omega) (by omega) (by omega) (by omega)).mono ?_; rintro e w' ⟨rfl, rfl⟩)
    go_ret
    exact ⟨ret_bool hr'.out.symm, rfl⟩

end Go.Proofs.Ytidlfjaogjpokaa
