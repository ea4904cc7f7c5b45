/- The program's test for primes and the reference's agree; so do the checks of parameters and of graphs. -/
import Derived.Test.YtidlfjaogjpokaaPrimeD
import Derived.Test.YtidlfjaogjpokaaGraF
namespace Go.Proofs.Ytidlfjaogjpokaa.Pr
theorem C.mod {n x : Int} : C n (x % n) x := Int.emod_emod_of_dvd x (Int.dvd_refl n)
theorem powGo_C (n : Int) (k : Nat) : ∀ (out a e : Int), 0 ≤ e → e < 2 ^ k → C n (M.powGo n k out a e) (out * a ^ e.toNat) := by
  induction k with
  | zero =>
    intro out a e h0 h1
    have : e = 0 := by simp at h1; omega
    subst this
    simp only [M.powGo, Int.toNat_zero, Int.pow_zero, Int.mul_one]
    exact C.rfl'
  | succ k ih =>
    intro out a e h0 h1
    rcases Int.lt_or_le 0 e with h | h
    · have h3 : e / 2 < 2 ^ k := by
        have : (2 : Int) ^ (k + 1) = 2 ^ k * 2 := by rw [Int.pow_succ]
        rw [this] at h1
        generalize (2 : Int) ^ k = q at h1 ⊢
        omega
      rw [M.powGo_step n out a e k h]
      refine (ih _ _ (e / 2) (by omega) h3).trans ?_
      have hp : C n ((a * a % n) ^ (e / 2).toNat) (a ^ (2 * (e / 2).toNat)) := by
        rw [Int.pow_mul, show a ^ 2 = a * a by rw [Int.pow_succ, Int.pow_succ, Int.pow_zero, Int.one_mul]]
        exact C.mod.pow _
      by_cases hb : e % 2 = 1
      · rw [if_pos hb, show e.toNat = 2 * (e / 2).toNat + 1 by omega, Int.pow_succ, Int.mul_comm (a ^ _) a, ← Int.mul_assoc]
        exact C.mod.mul hp
      · rw [if_neg hb, show e.toNat = 2 * (e / 2).toNat by omega]
        exact C.rfl'.mul hp
    · obtain rfl : e = 0 := by omega
      rw [M.powGo_stop n out a 0 (k + 1) (by omega), Int.toNat_zero, Int.pow_zero, Int.mul_one]
      exact C.rfl'
theorem pow_C (a e n : Int) (h0 : 0 ≤ e) (h1 : e < 18446744073709551616) : C n (M.pow a e n) (a ^ e.toNat) := by
  have := powGo_C n 64 1 a e h0 (by simpa using h1)
  rwa [Int.one_mul] at this
theorem chk_C (n : Int) (k : Nat) : ∀ x : Int, M.chk n k x = true → ∃ i, i < k ∧ C n (x ^ (2 ^ i)) (-1) := by
  induction k with
  | zero => intro x h; simp [M.chk] at h
  | succ k ih =>
    intro x h
    unfold M.chk at h
    rcases Bool.or_eq_true _ _ ▸ h with h | h
    · have h := of_decide_eq_true h
      subst h
      refine ⟨0, by omega, ?_⟩
      rw [Nat.pow_zero, Int.pow_succ, Int.pow_zero, Int.one_mul]
      exact C.iff_dvd.2 ⟨1, by omega⟩
    · obtain ⟨i, hi, hc⟩ := ih _ h
      refine ⟨i + 1, by omega, ?_⟩
      have : C n ((x * x % n) ^ 2 ^ i) ((x * x) ^ 2 ^ i) := C.mod.pow _
      rw [Nat.pow_succ, Nat.mul_comm, Int.pow_mul, show x ^ 2 = x * x by rw [Int.pow_succ, Int.pow_succ, Int.pow_zero, Int.one_mul]]
      exact this.symm.trans hc
theorem strong_St (a : Int) (n d e : Nat) (h3 : 3 ≤ n) (h1 : n < 4294967296) (hd : M.odd n = d) (he : (M.twos n).toNat = e) (h : M.strong a n = true) : St a n d e := by
  have hl := M.odd_lt n (by omega) (by omega)
  obtain ⟨o1, o2, o3, o4, o5⟩ := M.odd_spec n (by omega) (by omega)
  have hp : C n (M.pow (a % n) (M.odd n) n) (a ^ d) := by
    refine (pow_C (a % n) (M.odd n) n (by omega) (by omega)).trans ?_
    rw [hd, Int.toNat_natCast]
    exact C.mod.pow _
  unfold M.strong at h
  rcases Bool.or_eq_true _ _ ▸ h with h | h
  · have h := of_decide_eq_true h
    rw [h] at hp
    exact .inl hp.symm
  · obtain ⟨i, hi, hc⟩ := chk_C _ _ _ h
    refine .inr ⟨i, by omega, ?_⟩
    rw [Nat.mul_comm, Int.pow_mul]
    exact ((hp.pow _).symm).trans hc
theorem trial_far (n : Int) (r : Bool) : ∀ l : List Int, (∀ p ∈ l, n ≠ p) → M.trial n l r = (l.all (fun p => decide (n % p ≠ 0)) && r) := by
  intro l
  induction l with
  | nil => intro _; simp [M.trial]
  | cons p l ih =>
    intro h
    rw [M.trial, ih (fun x hx => h x (List.mem_cons_of_mem _ hx))]
    have := h p (List.mem_cons_self ..)
    by_cases h0 : n % p = 0
    · rw [if_pos h0]
      have : (n == p) = false := by simpa using this
      simp [this, h0]
    · rw [if_neg h0]; simp [h0]
theorem prime_big (n : Int) (h0 : 1073741824 < n) (h1 : n < 2147483648) (h8 : n % 8 = 1) : M.primeP n = M.primeR n := by
  unfold M.primeP M.primeR
  rw [if_neg (show ¬ n < 2 by omega), if_neg (show ¬ (n = 2 ∨ n = 7 ∨ n = 61) by omega), trial_far _ _ _ (by intro p hp; simp at hp; omega)]
  have e1 : decide (2 < n) = true := decide_eq_true (by omega)
  have e2 : decide (n % 2 = 1) = true := decide_eq_true (by omega)
  rw [e1, e2]
  by_cases hs : M.strong 2 n = true ∧ M.strong 7 n = true ∧ M.strong 61 n = true
  · obtain ⟨s2, s7, s61⟩ := hs
    obtain ⟨N, rfl⟩ : ∃ N : Nat, n = N := ⟨n.toNat, by omega⟩
    obtain ⟨o1, o2, o3, o4, o5⟩ := M.odd_spec N (by omega) (by omega)
    obtain ⟨D, hD⟩ : ∃ D : Nat, M.odd N = D := ⟨(M.odd N).toNat, by omega⟩
    have hq : N - 1 = 2 ^ (M.twos N).toNat * D := by
      rw [hD] at o5
      have : ((N - 1 : Nat) : Int) = ((2 ^ (M.twos N).toNat * D : Nat) : Int) := by
        rw [Int.natCast_mul, Int.natCast_pow, Int.natCast_sub (by omega)]
        rw [Int.mul_comm]
        exact o5
      omega
    have hk := no_small N D (M.twos N).toNat (by omega) (by omega) (by omega) (by omega) hq (strong_St 2 N D _ (by omega) (by omega) hD rfl s2) (strong_St 7 N D _ (by omega) (by omega) hD rfl s7) (strong_St 61 N D _ (by omega) (by omega) hD rfl s61)
    have d2 : decide ((N : Int) % 2 ≠ 0) = true := decide_eq_true (by omega)
    have d3 : decide ((N : Int) % 3 ≠ 0) = true := decide_eq_true (by omega)
    have d5 : decide ((N : Int) % 5 ≠ 0) = true := decide_eq_true (by omega)
    have d11 : decide ((N : Int) % 11 ≠ 0) = true := decide_eq_true (by omega)
    have d13 : decide ((N : Int) % 13 ≠ 0) = true := decide_eq_true (by omega)
    have d7 : decide ((N : Int) % 7 ≠ 0) = decide (0 < (N : Int) % 7) := decide_eq_decide.2 (by omega)
    have d61 : decide ((N : Int) % 61 ≠ 0) = decide (0 < (N : Int) % 61) := decide_eq_decide.2 (by omega)
    simp only [List.all_cons, List.all_nil, M.strongs, s2, s7, s61, d2, d3, d5, d11, d13, d7, d61, Bool.true_and, Bool.and_true]
  · have : M.strongs n [2, 7, 61] = false := by
      simp only [M.strongs, Bool.and_true]
      cases a : M.strong 2 n <;> cases b : M.strong 7 n <;> cases c : M.strong 61 n <;> simp_all
    rw [this]
    have : (M.strong 2 n && M.strong 7 n && M.strong 61 n) = false := by
      cases a : M.strong 2 n <;> cases b : M.strong 7 n <;> cases c : M.strong 61 n <;> simp_all
    rw [Bool.and_false]
    cases a : M.strong 2 n <;> cases b : M.strong 7 n <;> cases c : M.strong 61 n <;> simp_all
/-- below 65536: counted -/
def odd3 (n : Nat) : Bool := cond (Nat.beq (n % 3) 0) true (cond (Nat.beq (n % 5) 0) true (cond (Nat.beq (n % 11) 0) true (Nat.beq (n % 13) 0)))
def okS (n : Nat) : Bool := cond (odd3 n) (cond (Nat.beq (fer n) 1) (M.primeP n == M.primeR n) true) true
def sweepS : Nat → Bool
  | 0 => true
  | k + 1 => cond (okS (8 * k + 9)) (sweepS k) false
theorem sweepS_ok : sweepS 8191 = true := by decide +kernel
theorem sweepS_at (k : Nat) : ∀ j, j < k → sweepS k = true → okS (8 * j + 9) = true := by
  induction k with
  | zero => intro j h; omega
  | succ k ih =>
    intro j h hs
    rw [sweepS] at hs
    cases ho : okS (8 * k + 9) with
    | false => rw [ho] at hs; simp at hs
    | true =>
      rw [ho] at hs
      rcases Nat.lt_or_ge j k with h1 | h1
      · exact ih j h1 hs
      · obtain rfl : j = k := by omega
        exact ho
theorem prime_small (n : Int) (h0 : 3 ≤ n) (h1 : n < 65536) (h8 : n % 8 = 1) : M.primeP n = M.primeR n := by
  obtain ⟨j, hj, rfl⟩ : ∃ j : Nat, j < 8191 ∧ n = ((8 * j + 9 : Nat) : Int) := ⟨((n - 9) / 8).toNat, by omega, by omega⟩
  have hk := sweepS_at 8191 j hj sweepS_ok
  generalize 8 * j + 9 = N at h0 h1 h8 hk
  have e1 : decide (2 < (N : Int)) = true := decide_eq_true (by omega)
  have e2 : decide ((N : Int) % 2 = 1) = true := decide_eq_true (by omega)
  by_cases hx : odd3 N = true ∧ Nat.beq (fer N) 1 = true
  · unfold okS at hk
    rw [hx.1, hx.2] at hk
    exact eq_of_beq hk
  · by_cases hs : M.strongs N [2, 7, 61] = true
    · have s2 : M.strong 2 N = true := by
        simp only [M.strongs, Bool.and_eq_true] at hs; exact hs.1
      have sx : M.strong 7 N = true ∧ M.strong 61 N = true := by
        simp only [M.strongs, Bool.and_eq_true, Bool.and_true] at hs; exact hs.2
      obtain ⟨o1, o2, o3, o4, o5⟩ := M.odd_spec N (by omega) (by omega)
      obtain ⟨D, hD⟩ : ∃ D : Nat, M.odd N = D := ⟨(M.odd N).toNat, by omega⟩
      have hq : N - 1 = 2 ^ (M.twos N).toNat * D := by
        rw [hD] at o5
        have : ((N - 1 : Nat) : Int) = ((2 ^ (M.twos N).toNat * D : Nat) : Int) := by
          rw [Int.natCast_mul, Int.natCast_pow, Int.natCast_sub (by omega)]
          rw [Int.mul_comm]
          exact o5
        omega
      have hst := strong_St 2 N D _ (by omega) (by omega) hD rfl s2
      have hf : fer N = 1 := by
        rw [fer_eq]
        have : C N ((2 : Int) ^ (N - 1)) 1 := by
          generalize (M.twos (N : Int)).toNat = e at hq hst
          rcases hst with h | ⟨i, hi, h⟩
          · have := h.pow (2 ^ e)
            rw [← Int.pow_mul, Nat.mul_comm, ← hq, Int.one_pow] at this
            exact this
          · have := h.pow (2 ^ (e - i))
            rw [← Int.pow_mul, Nat.mul_right_comm, ← Nat.pow_add, show i + (e - i) = e by omega, ← hq, neg_one_even _ (by have := two_pow_even (i := e - i) (d := 1) (by omega); simpa using this)] at this
            exact this
        unfold C at this
        have h3 : ((2 ^ (N - 1) % N : Nat) : Int) = ((1 % N : Nat) : Int) := by simpa using this
        have h4 : 1 % N = 1 := Nat.mod_eq_of_lt (by omega)
        omega
      have ho : odd3 N = false := by
        cases h : odd3 N with
        | false => rfl
        | true => exact absurd ⟨h, by rw [hf]; rfl⟩ hx
      have hn : N % 3 ≠ 0 ∧ N % 5 ≠ 0 ∧ N % 11 ≠ 0 ∧ N % 13 ≠ 0 := by
        unfold odd3 at ho
        refine ⟨fun h => ?_, fun h => ?_, fun h => ?_, fun h => ?_⟩
        · simp [h] at ho
        · cases a : Nat.beq (N % 3) 0 <;> simp [h, a] at ho
        · cases a : Nat.beq (N % 3) 0 <;> cases b : Nat.beq (N % 5) 0 <;> simp [h, a, b] at ho
        · cases a : Nat.beq (N % 3) 0 <;> cases b : Nat.beq (N % 5) 0 <;> cases c : Nat.beq (N % 11) 0 <;> simp [h, a, b, c] at ho
      unfold M.primeP M.primeR
      rw [if_neg (show ¬ (N : Int) < 2 by omega), hs, s2, sx.1, sx.2, e1, e2]
      simp only [Bool.true_and, Bool.and_true]
      by_cases q7 : (N : Int) = 7
      · omega
      · by_cases q61 : (N : Int) = 61
        · omega
        · rw [if_neg (by omega)]
          unfold M.trial
          rw [if_neg (by omega)]
          unfold M.trial
          rw [if_neg (by omega)]
          unfold M.trial
          rw [if_neg (by omega)]
          unfold M.trial
          by_cases z7 : (N : Int) % 7 = 0
          · rw [if_pos z7]
            have : (decide (0 < (N : Int) % 7)) = false := decide_eq_false (by omega)
            simp only [this, Bool.false_and]
            exact beq_eq_false_iff_ne.2 q7
          · rw [if_neg z7]
            have : (decide (0 < (N : Int) % 7)) = true := decide_eq_true (by omega)
            simp only [this, Bool.true_and]
            unfold M.trial
            rw [if_neg (by omega)]
            unfold M.trial
            rw [if_neg (by omega)]
            unfold M.trial
            by_cases z61 : (N : Int) % 61 = 0
            · rw [if_pos z61]
              have : (decide (0 < (N : Int) % 61)) = false := decide_eq_false (by omega)
              simp only [this]
              exact beq_eq_false_iff_ne.2 q61
            · rw [if_neg z61]
              have : (decide (0 < (N : Int) % 61)) = true := decide_eq_true (by omega)
              simp only [this]
              rfl
    · have hsf : M.strongs (N : Int) [2, 7, 61] = false := by simpa using hs
      have hR : M.primeR N = false := by
        unfold M.primeR
        rw [if_neg (by omega)]
        simp only [M.strongs, Bool.and_true] at hsf
        cases a : M.strong 2 N <;> cases b : M.strong 7 N <;> cases c : M.strong 61 N <;> simp_all
      rw [hR]
      unfold M.primeP
      rw [if_neg (show ¬ (N : Int) < 2 by omega), hsf]
      rw [trial_far _ _ _ (by intro p hp; simp at hp; omega), Bool.and_false]
theorem mod_eight {N p k : Int} (h : M.dimB N = true) (hp : p % (2 * N * k) = 1) : p % 8 = 1 := by
  have hd : (8 : Int) ∣ 2 * N * k := by
    rcases M.dimB_le N h with rfl | rfl | rfl | rfl
    · exact ⟨k, by omega⟩
    · exact ⟨2 * k, by omega⟩
    · exact ⟨4 * k, by omega⟩
    · exact ⟨8 * k, by omega⟩
  rw [← Int.emod_emod_of_dvd p hd, hp]; rfl
theorem plain_eq {N : Int} (h : M.dimB N = true) (p r : Int) : M.plainOf M.primeP N p r = M.plainOf M.primeR N p r := by
  unfold M.plainOf
  by_cases h1 : p < 3
  · rw [if_pos (.inl h1), if_pos (.inl h1)]
  by_cases h2 : 65536 ≤ p
  · rw [if_pos (.inr (.inl h2)), if_pos (.inr (.inl h2))]
  by_cases h3 : p % (2 * N) = 1
  · rw [prime_small p (by omega) (by omega) (mod_eight (k := 1) h (by rw [Int.mul_one]; exact h3))]
  · rw [if_pos (.inr (.inr (.inr (.inl h3)))), if_pos (.inr (.inr (.inr (.inl h3))))]
theorem good_eq {N : Int} (h : M.dimB N = true) (t : Int) : M.goodOf M.primeP N t = M.goodOf M.primeR N t := by
  funext q
  unfold M.goodOf
  by_cases h1 : q % (2 * N * t) = 1
  · have h8 := mod_eight h h1
    by_cases h2 : 1073741824 < q
    · by_cases h3 : q ≤ 2147483647
      · rw [prime_big q h2 (by omega) h8]
      · simp [h3]
    · simp [h2]
  · rw [beq_eq_false_iff_ne.2 h1, Bool.and_false, Bool.and_false]
theorem check_eq (N pr pw : Int) (l : List Int) (sp wt er : Int) : M.checkOf M.primeP N pr pw l sp wt er = M.checkOf M.primeR N pr pw l sp wt er := by
  unfold M.checkOf
  cases h : M.dimB N with
  | false => rfl
  | true => rw [plain_eq h, good_eq h]
theorem gE_eq (N pr pw : Int) (l : List Int) (sp wt er inp : Int) (rows : List (List Int)) (nodes : List Nd) (outs : List Int) : gE M.primeP N pr pw l sp wt er inp rows nodes outs = gE M.primeR N pr pw l sp wt er inp rows nodes outs := by
  unfold gE
  rw [check_eq]
  cases h : M.checkOf M.primeR N pr pw l sp wt er with
  | false => rfl
  | true =>
    have : M.dimB N = true := by
      cases hd : M.dimB N with
      | true => rfl
      | false => rw [M.checkOf_no (.inl hd)] at h; simp at h
    rw [plain_eq this]
end Go.Proofs.Ytidlfjaogjpokaa.Pr
