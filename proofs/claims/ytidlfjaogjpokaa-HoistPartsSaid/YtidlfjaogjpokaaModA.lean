/- The walks of package modular (product, power, passes, Prime): what each call returns. -/
import Derived.Test.YtidlfjaogjpokaaRows
import Derived.Test.YtidlfjaogjpokaaMath
import Derived.Test.YtidlfjaogjpokaaWords
namespace Go.Proofs.Ytidlfjaogjpokaa
open Go.RowKit

theorem mul_bd {a b : Int} (ha : 0 ≤ a) (ha' : a < 4294967296) (hb : 0 ≤ b) (hb' : b < 4294967296) : 0 ≤ a * b ∧ a * b ≤ 4294967295 * 4294967295 :=
  ⟨Int.mul_nonneg ha hb, Int.mul_le_mul (by omega) (by omega) hb (by omega)⟩
theorem mod_bd (a n : Int) (h : 0 < n) : 0 ≤ a % n ∧ a % n < n := ⟨Int.emod_nonneg _ (by omega), Int.emod_lt_of_pos _ h⟩

theorem product1_any (a b n : Int) (blk : Nat) (w : World) (h : w.cell? ⟨blk, 0, none⟩ = some (.int .u64 n))
    (ha : 0 ≤ a) (ha' : a < 4294967296) (hb : 0 ≤ b) (hb' : b < 4294967296) (hn : 2 ≤ n) (hn' : n < 4294967296) :
    Calls Try.prog 102 #[.int .u32 a, .int .u32 b, .pointer (some ⟨blk, 0, none⟩)] w fun e w' => e = .returned (.int .u32 (a * b % n)) ∧ w = w' := by
  have hab := mul_bd ha ha' hb hb'
  have hm := mod_bd (a * b) n (by omega)
  go_enter Try.func102, Try.ntmps102
  go_wp2
  go_ret
  exact ⟨rfl, rfl⟩

theorem product_any (n : Int) (w : World) (hn : 2 ≤ n) (hn' : n < 4294967296) :
    Calls Try.prog 97 #[.int .u32 n] w fun e w' => e = .returned (.func (.func 102) #[] #[.pointer (some ⟨w.heap.size, 0, none⟩)]) ∧
      w' = w.alloc (.cells #[.int .u64 n] 75) := by
  go_enter Try.func97, Try.ntmps97
  go_wp2
  go_ret
  exact ⟨rfl, rfl⟩

theorem power_any (a e n : Int) (w : World) (ha : 0 ≤ a) (ha' : a < 4294967296) (he : 0 ≤ e) (he' : e < 18446744073709551616) (hn : 2 ≤ n) (hn' : n < 4294967296) :
    Calls Try.prog 87 #[.int .u32 a, .int .u64 e, .int .u32 n] w fun r w' => r = .returned (.int .u32 (M.pow a e n)) ∧ w' = w.alloc (.cells #[.int .u64 n] 75) := by
  go_enter Try.func87, Try.ntmps87
  go_wp2_with (go_at_call 97; refine (product_any _ _ hn hn').mono ?_; rintro e w' ⟨rfl, rfl⟩)
  have HR : Hid (M.powGo n 64 1 a e = M.pow a e n) := rfl
  go_loop [0, 1, 8] (fun x y z => ∃ (k : Nat) (a' e' o' : Int), x = .int .u32 a' ∧ y = .int .u64 e' ∧ z = .int .u32 o' ∧ 0 ≤ a' ∧ a' < 4294967296 ∧ 0 ≤ e' ∧ e' < 2 ^ k ∧ k ≤ 64 ∧ 0 ≤ o' ∧ o' < n ∧ Hid (M.powGo n k o' a' e' = M.pow a e n)) (fun _ y _ => (intOf y).toNat)
  case atStart => exact ⟨64, a, e, 1, rfl, rfl, rfl, ha, ha', he, by omega, by omega, by omega, by omega, HR⟩
  case round =>
    obtain ⟨k, a', e', o', rfl, rfl, rfl, h1, h2, h3, h4, h5, h6, h7, H8⟩ := hrel
    clear HR
    have h64 : e' < 18446744073709551616 := Int.lt_of_lt_of_le h4 (by have : (2 : Int) ^ k ≤ 2 ^ 64 := by exact_mod_cast Nat.pow_le_pow_right (by omega) h5
                                                                      omega)
    by_cases hz : 0 < e'
    · obtain ⟨j, rfl⟩ : ∃ j, k = j + 1 := ⟨k - 1, by have : k ≠ 0 := by { intro hk; subst hk; simp at h4; omega }
                                                     omega⟩
      have h4' : e' / 2 < 2 ^ j := by
        have : (2 : Int) ^ (j + 1) = 2 ^ j * 2 := by rw [Int.pow_succ]
        have h4'' := h4
        rw [this] at h4''
        generalize (2 : Int) ^ j = q at h4'' ⊢
        omega
      have H9 : Hid (M.powGo n j (if e' % 2 = 1 then o' * a' % n else o') (a' * a' % n) (e' / 2) = M.pow a e n) := by
        have := H8.out; rwa [M.powGo_step _ _ _ _ _ hz] at this
      clear H8 h4
      have hm1 := mod_bd (o' * a') n (by omega)
      have hm2 := mod_bd (a' * a') n (by omega)
      by_cases hb : e' % 2 = 1
      · have hbit : (Go.bits BinOp.and IntKind.u64 e' 1 == 1) = true := by rw [and_one_u64 e' (by omega) (by omega)]; simp [hb]
        have H10 : Hid (M.powGo n j (o' * a' % n) (a' * a' % n) (e' / 2) = M.pow a e n) := Lib.hid (by have := H9.out; rwa [if_pos hb] at this)
        clear H9 hb
        go_wp2_with (go_at_call 102; refine (product1_any _ _ n _ _ (by simp) (by omega) (by omega) (by omega) (by omega) hn hn').mono ?_; rintro e w' ⟨rfl, rfl⟩)
        exact ⟨⟨j, _, _, _, rfl, rfl, rfl, by omega, by omega, by omega, h4', by omega, by omega, by omega, H10⟩, by simp [intOf]; omega⟩
      · have hbit : (Go.bits BinOp.and IntKind.u64 e' 1 == 1) = false := by rw [and_one_u64 e' (by omega) (by omega)]; simp [hb]
        have H10 : Hid (M.powGo n j o' (a' * a' % n) (e' / 2) = M.pow a e n) := Lib.hid (by have := H9.out; rwa [if_neg hb] at this)
        clear H9 hb
        go_wp2_with (go_at_call 102; refine (product1_any _ _ n _ _ (by simp) (by omega) (by omega) (by omega) (by omega) hn hn').mono ?_; rintro e w' ⟨rfl, rfl⟩)
        exact ⟨⟨j, _, _, _, rfl, rfl, rfl, by omega, by omega, by omega, h4', by omega, by omega, by omega, H10⟩, by simp [intOf]; omega⟩
    · have hr : Hid (o' = M.pow a e n) := Lib.hid (by have := H8.out; rwa [M.powGo_stop _ _ _ _ _ (by omega)] at this)
      clear H8 h4
      obtain rfl : e' = 0 := by omega
      go_wp2
      go_ret
      exact ⟨ret_int hr.out, rfl⟩
theorem and_one_u32 (E : Int) (h0 : 0 ≤ E) (h1 : E ≤ 4294967295) : Go.bits BinOp.and IntKind.u32 E 1 = E % 2 := by
  obtain ⟨a, rfl⟩ := Int.eq_ofNat_of_zero_le h0
  have h := (bits_nat .u32 32 (by decide) (fun n h h' => by rw [IntKind.wrap_u32]; omega) a 1 (by omega) (by omega)).1
  rw [Nat.and_one_is_mod] at h
  have h2 : ((a % 2 : Nat) : Int) = (a : Int) % 2 := by omega
  exact h.trans h2

theorem passes_any (a n : Int) (w : World) (ha : 0 ≤ a) (ha' : a < 4294967296) (hn : 3 ≤ n) (hn' : n < 4294967296) (ho : n % 2 = 1) :
    Calls Try.prog 83 #[.int .u32 a, .int .u32 n] w fun r w' => r = .returned (.bool (M.strong a n)) ∧ w' = w.alloc (.cells #[.int .u64 n] 75) := by
  have hs := M.odd_spec n hn hn'
  have hl := M.odd_lt n hn hn'
  have ht := M.twos_pos n hn hn' ho
  have HF : Hid (n - 1 = M.odd n * 2 ^ (M.twos n).toNat) := hs.2.2.2.2
  obtain ⟨hs1, hs2, hs3, hs4, -⟩ := hs
  have HR : Hid (M.oddGo 32 (n - 1) 0 = (M.odd n, M.twos n)) := rfl
  have HO := Lib.hid ho
  clear ho
  have hm := mod_bd a n (by omega)
  go_enter Try.func83, Try.ntmps83
  go_wp2
  go_loop [5, 6] (fun x y => ∃ (k : Nat) (d s : Int), x = .int .u32 d ∧ y = .int .i64 s ∧ 0 < d ∧ d < 2 ^ k ∧ k ≤ 32 ∧ 0 ≤ s ∧ s + k ≤ 32 ∧ Hid (M.oddGo k d s = (M.odd n, M.twos n))) (fun x _ => (intOf x).toNat)
  case atStart => exact ⟨32, n - 1, 0, rfl, rfl, by omega, by omega, by omega, by omega, by omega, HR⟩
  case round =>
    obtain ⟨k, d, s, rfl, rfl, h1, h2, h3, h4, h5, H6⟩ := hrel
    clear HR
    have h32 : d < 4294967296 := Int.lt_of_lt_of_le h2 (by have : (2 : Int) ^ k ≤ 2 ^ 32 := by exact_mod_cast Nat.pow_le_pow_right (by omega) h3
                                                           omega)
    by_cases hz : d % 2 = 0
    · obtain ⟨j, rfl⟩ : ∃ j, k = j + 1 := ⟨k - 1, by have : k ≠ 0 := by { intro hk; subst hk; simp at h2; omega }
                                                     omega⟩
      have h4' : d / 2 < 2 ^ j := by
        have : (2 : Int) ^ (j + 1) = 2 ^ j * 2 := by rw [Int.pow_succ]
        have h4'' := h2
        rw [this] at h4''
        generalize (2 : Int) ^ j = q at h4'' ⊢
        omega
      have H7 : Hid (M.oddGo j (d / 2) (s + 1) = (M.odd n, M.twos n)) := Lib.hid (by have := H6.out; rwa [M.oddGo_step _ _ _ hz] at this)
      have hbit : (Go.bits BinOp.and IntKind.u32 d 1 == 0) = true := by rw [and_one_u32 d (by omega) (by omega)]; simp [hz]
      have hd2 : 0 < d / 2 := by omega
      clear H6 h2 hz
      go_wp2
      exact ⟨⟨j, _, _, rfl, rfl, by omega, h4', by omega, by omega, by omega, H7⟩, by simp [intOf]; omega⟩
    · have hds : d = M.odd n ∧ s = M.twos n := by have := H6.out; rw [M.oddGo_stop _ _ _ hz] at this; exact Prod.mk.inj this
      obtain ⟨rfl, rfl⟩ := hds
      have hbit : (Go.bits BinOp.and IntKind.u32 (M.odd n) 1 == 0) = false := by rw [and_one_u32 _ (by omega) (by omega)]; simp [hz]
      clear H6 h2 hz
      have hX0 := M.pow_lt (a % n) (M.odd n) n (by omega)
      have HS : Hid (M.strong a n = (M.pow (a % n) (M.odd n) n == 1 || M.chk n (M.twos n).toNat (M.pow (a % n) (M.odd n) n))) := rfl
      go_wp2_with fail
      refine (power_any _ _ _ _ (by omega) (by omega) (by omega) (by omega) (by omega) (by omega)).mono ?_
      rintro e w' ⟨rfl, rfl⟩
      generalize M.pow (a % n) (M.odd n) n = X at HS hX0 ⊢
      by_cases hx1 : X = 1
      · have hr : Hid (M.strong a n = true) := Lib.hid (by rw [HS.out, hx1]; simp)
        clear HS
        subst hx1
        go_wp2
        go_ret
        exact ⟨ret_bool hr.out.symm, rfl⟩
      · obtain ⟨S, hS⟩ : ∃ S : Nat, M.twos n = (S : Int) + 1 := ⟨(M.twos n - 1).toNat, by omega⟩
        by_cases hx2 : X = n - 1
        · have hr : Hid (M.strong a n = true) := Lib.hid (by rw [HS.out, hS, show ((S : Int) + 1).toNat = S + 1 from by omega, M.chk_yes _ _ _ hx2]; simp)
          clear HS hS
          subst hx2
          have hq1 : (n - 1 == (1 : Int)) = false := by simpa using hx1
          clear hx1
          go_wp2
          go_ret
          exact ⟨ret_bool hr.out.symm, rfl⟩
        · have hr : Hid (M.strong a n = M.chk n S (X * X % n)) := Lib.hid (by rw [HS.out, hS, show ((S : Int) + 1).toNat = S + 1 from by omega, M.chk_no _ _ _ hx2]; simp [hx1])
          have hq1 : (X == (1 : Int)) = false := by simpa using hx1
          have hq2 : (X == n - 1) = false := by simpa using hx2
          have HS' := Lib.hid hS
          have hS1 : M.twos n ≤ (S : Int) + 1 := by omega
          have hS2 : (S : Int) + 1 ≤ M.twos n := by omega
          clear hx1 hx2 HS hS
          go_wp2
          go_loop [7, 34] (fun x y => ∃ (k : Nat) (X' : Int), k ≤ S ∧ x = .int .u32 X' ∧ y = .int .i64 k ∧ 0 ≤ X' ∧ X' < n ∧ Hid (M.strong a n = M.chk n (S - k) (X' * X' % n))) (fun _ y => S - (intOf y).toNat)
          case atStart => exact ⟨0, X, by omega, rfl, rfl, by omega, by omega, hr⟩
          case round =>
            obtain ⟨k, X', g1, rfl, rfl, g2, g3, G4⟩ := hrel
            clear hr
            have hxx := mul_bd (a := X') (b := X') (by omega) (by omega) (by omega) (by omega)
            have hxm := mod_bd (X' * X') n (by omega)
            by_cases hlt : k < S
            · have hk1 : (k : Int) < M.twos n - 1 := by omega
              by_cases hx : X' * X' % n = n - 1
              · have hr : Hid (M.strong a n = true) := Lib.hid (by rw [G4.out, show S - k = (S - k - 1) + 1 from by omega, M.chk_yes _ _ _ hx])
                have hq : (X' * X' % n == n - 1) = true := by simpa using hx
                clear hx G4
                go_wp2
                go_ret
                exact ⟨ret_bool hr.out.symm, rfl⟩
              · have hr : Hid (M.strong a n = M.chk n (S - (k + 1)) (X' * X' % n * (X' * X' % n) % n)) := Lib.hid (by rw [G4.out, show S - k = (S - (k + 1)) + 1 from by omega, M.chk_no _ _ _ hx])
                have hq : (X' * X' % n == n - 1) = false := by simpa using hx
                clear hx G4
                go_wp2
                exact ⟨⟨k + 1, _, by omega, rfl, by go_num, by omega, by omega, hr⟩, by simp [intOf]; omega⟩
            · have hk1 : ¬ (k : Int) < M.twos n - 1 := by omega
              have hr : Hid (M.strong a n = false) := Lib.hid (by rw [G4.out, show S - k = 0 from by omega]; rfl)
              clear G4
              go_wp2
              go_ret
              exact ⟨ret_bool hr.out.symm, rfl⟩

theorem idx7 (k : Nat) (hk : k < 7) (w : World) : (Instr.index 114 (.agg #[.int .u32 2, .int .u32 3, .int .u32 5, .int .u32 7, .int .u32 11, .int .u32 13, .int .u32 61]) (.int .i64 (k : Int))).run Try.prog w = .ok (.int .u32 (([2, 3, 5, 7, 11, 13, 61] : List Int).getD k 0)) w := by
  obtain rfl | rfl | rfl | rfl | rfl | rfl | rfl : k = 0 ∨ k = 1 ∨ k = 2 ∨ k = 3 ∨ k = 4 ∨ k = 5 ∨ k = 6 := by omega
  all_goals kernel_rfl
theorem idx3 (k : Nat) (hk : k < 3) (w : World) : (Instr.index 115 (.agg #[.int .u32 2, .int .u32 7, .int .u32 61]) (.int .i64 (k : Int))).run Try.prog w = .ok (.int .u32 (([2, 7, 61] : List Int).getD k 0)) w := by
  obtain rfl | rfl | rfl : k = 0 ∨ k = 1 ∨ k = 2 := by omega
  all_goals kernel_rfl
theorem drop7 (k : Nat) (hk : k < 7) : ([2, 3, 5, 7, 11, 13, 61] : List Int).drop k = ([2, 3, 5, 7, 11, 13, 61] : List Int).getD k 0 :: ([2, 3, 5, 7, 11, 13, 61] : List Int).drop (k + 1) ∧ 2 ≤ ([2, 3, 5, 7, 11, 13, 61] : List Int).getD k 0 ∧ ([2, 3, 5, 7, 11, 13, 61] : List Int).getD k 0 ≤ 61 := by
  match k, hk with
  | 0, _ | 1, _ | 2, _ | 3, _ | 4, _ | 5, _ | 6, _ => decide
theorem drop3 (k : Nat) (hk : k < 3) : ([2, 7, 61] : List Int).drop k = ([2, 7, 61] : List Int).getD k 0 :: ([2, 7, 61] : List Int).drop (k + 1) ∧ 2 ≤ ([2, 7, 61] : List Int).getD k 0 ∧ ([2, 7, 61] : List Int).getD k 0 ≤ 61 := by
  match k, hk with
  | 0, _ | 1, _ | 2, _ => decide

theorem prime_any (n : Int) (w : World) (h0 : 0 ≤ n) (hn' : n < 4294967296) :
    Calls Try.prog 66 #[.int .u32 n] w fun r w' => r = .returned (.bool (M.primeP n)) ∧ Below w.heap.size w w' := by
  by_cases h2 : n < 2
  · have hr : Hid (M.primeP n = false) := Lib.hid (by rw [M.primeP, if_pos h2])
    go_enter Try.func66, Try.ntmps66
    go_wp2
    go_ret
    exact ⟨ret_bool hr.out.symm, Below.refl _ _⟩
  · have hr : Hid (M.primeP n = M.trial n [2, 3, 5, 7, 11, 13, 61] (M.strongs n [2, 7, 61])) := Lib.hid (by rw [M.primeP, if_neg h2])
    go_enter Try.func66, Try.ntmps66
    go_wp2
    go_loop [4, 10] (fun _ y => ∃ (k : Nat), k ≤ 7 ∧ y = .int .i64 k ∧ Hid (M.primeP n = M.trial n (([2, 3, 5, 7, 11, 13, 61] : List Int).drop k) (M.strongs n [2, 7, 61])) ∧ Hid (k = 0 ∨ n % 2 = 1)) (fun _ y => 7 - (intOf y).toNat)
    case atStart => exact ⟨0, by omega, rfl, hr, Lib.hid (Or.inl rfl)⟩
    case round =>
      obtain ⟨k, g1, rfl, G2, G3⟩ := hrel
      clear hr
      by_cases hlt : k < 7
      · have hi := idx7 k hlt
        obtain ⟨d1, d2, d3⟩ := drop7 k hlt
        have G4 : Hid (M.primeP n = M.trial n (([2, 3, 5, 7, 11, 13, 61] : List Int).getD k 0 :: ([2, 3, 5, 7, 11, 13, 61] : List Int).drop (k + 1)) (M.strongs n [2, 7, 61])) := Lib.hid (by rw [← d1]; exact G2.out)
        have G6 : Hid (k = 0 → ([2, 3, 5, 7, 11, 13, 61] : List Int).getD k 0 = 2) := Lib.hid (by rintro rfl; rfl)
        clear d1 G2
        generalize ([2, 3, 5, 7, 11, 13, 61] : List Int).getD k 0 = p at hi G4 d2 d3 G6
        have hm := mod_bd n p (by omega)
        by_cases hd : n % p = 0
        · have hr : Hid (M.primeP n = (n == p)) := Lib.hid (by rw [G4.out, M.trial, if_pos hd])
          have hq : (n % p == 0) = true := by simpa using hd
          clear hd G4
          go_wp2
          go_ret
          exact ⟨ret_bool hr.out.symm, Below.refl _ _⟩
        · have hr : Hid (M.primeP n = M.trial n (([2, 3, 5, 7, 11, 13, 61] : List Int).drop (k + 1)) (M.strongs n [2, 7, 61])) := Lib.hid (by rw [G4.out, M.trial, if_neg hd])
          have hq : (n % p == 0) = false := by simpa using hd
          have G5 : Hid (k + 1 = 0 ∨ n % 2 = 1) := Lib.hid (Or.inr (by rcases G3.out with h | h
                                                                       · subst h; have := G6.out rfl; subst this; omega
                                                                       · exact h))
          clear hd G4 G3 G6
          go_wp2
          exact ⟨⟨k + 1, by omega, by go_num, hr, G5⟩, by simp [intOf]; omega⟩
      · have h7 : k = 7 := by omega
        have ho : n % 2 = 1 := by rcases G3.out with h | h <;> omega
        have hr : Hid (M.primeP n = M.strongs n [2, 7, 61]) := Lib.hid (by rw [G2.out, h7]; rfl)
        have HO := Lib.hid ho
        clear G2 G3 ho
        subst h7
        go_wp2
        go_loopw [6, 22] (fun _ y wr => ∃ (k : Nat), k ≤ 3 ∧ y = .int .i64 k ∧ Hid (M.primeP n = M.strongs n (([2, 7, 61] : List Int).drop k)) ∧ Below w.heap.size w wr) (fun _ y _ => 3 - (intOf y).toNat)
        case atStart => exact ⟨0, by omega, rfl, hr, Below.refl _ _⟩
        case round =>
          obtain ⟨k, g1, rfl, G2, hB⟩ := hrel
          clear hr
          by_cases hlt : k < 3
          · have hi := idx3 k hlt
            obtain ⟨d1, d2, d3⟩ := drop3 k hlt
            have G4 : Hid (M.primeP n = M.strongs n (([2, 7, 61] : List Int).getD k 0 :: ([2, 7, 61] : List Int).drop (k + 1))) := Lib.hid (by rw [← d1]; exact G2.out)
            clear d1 G2
            generalize ([2, 7, 61] : List Int).getD k 0 = p at hi G4 d2 d3
            have h3 : 3 ≤ n := by have := HO.out; omega
            by_cases hd : M.strong p n = true
            · have hr : Hid (M.primeP n = M.strongs n (([2, 7, 61] : List Int).drop (k + 1))) := Lib.hid (by rw [G4.out, M.strongs, hd, Bool.true_and])
              clear G4
              go_wp2_with (go_at_call 83; refine (passes_any _ _ _ (by omega) (by omega) h3 hn' HO.out).mono ?_; rintro e w' ⟨rfl, rfl⟩)
              exact ⟨⟨k + 1, by omega, by go_num, hr, hB.alloc hB.size _⟩, by simp [intOf]; omega⟩
            · have hr : Hid (M.primeP n = false) := Lib.hid (by rw [G4.out, M.strongs]; simp [hd])
              replace hd : M.strong p n = false := by simpa using hd
              clear G4
              go_wp2_with (go_at_call 83; refine (passes_any _ _ _ (by omega) (by omega) h3 hn' HO.out).mono ?_; rintro e w' ⟨rfl, rfl⟩)
              go_ret
              exact ⟨ret_bool hr.out.symm, hB.alloc hB.size _⟩
          · have hr : Hid (M.primeP n = true) := Lib.hid (by rw [G2.out, show k = 3 from by omega]; rfl)
            clear G2
            go_wp2
            go_ret
            exact ⟨ret_bool hr.out.symm, hB⟩

end Go.Proofs.Ytidlfjaogjpokaa
