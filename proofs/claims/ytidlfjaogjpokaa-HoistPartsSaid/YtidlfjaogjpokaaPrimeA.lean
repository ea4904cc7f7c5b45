/- Number theory for the strong tests: Fermat's little theorem, prime factors, congruences. -/
namespace Go.Proofs.Ytidlfjaogjpokaa.Pr
/-- the same residue modulo r -/
def C (r x y : Int) : Prop := x % r = y % r
theorem C.rfl' {r x : Int} : C r x x := rfl
theorem C.symm {r x y : Int} (h : C r x y) : C r y x := Eq.symm h
theorem C.trans {r x y z : Int} (h : C r x y) (h' : C r y z) : C r x z := Eq.trans h h'
theorem C.mul {r x y u v : Int} (h : C r x y) (h' : C r u v) : C r (x * u) (y * v) := by
  unfold C at *; rw [Int.mul_emod, h, h', ← Int.mul_emod]
theorem C.add {r x y u v : Int} (h : C r x y) (h' : C r u v) : C r (x + u) (y + v) := by
  unfold C at *; rw [Int.add_emod, h, h', ← Int.add_emod]
theorem C.pow {r x y : Int} (h : C r x y) (n : Nat) : C r (x ^ n) (y ^ n) := by
  induction n with
  | zero => rw [Int.pow_zero, Int.pow_zero]; exact C.rfl'
  | succ n ih => rw [Int.pow_succ, Int.pow_succ]; exact ih.mul h
theorem C.dvd {r q x y : Int} (h : C q x y) (hd : r ∣ q) : C r x y := by
  unfold C at *; rw [← Int.emod_emod_of_dvd x hd, h, Int.emod_emod_of_dvd y hd]
theorem C.iff_dvd {r x y : Int} : C r x y ↔ r ∣ x - y := by
  unfold C; exact Int.emod_eq_emod_iff_emod_sub_eq_zero.trans (Int.dvd_iff_emod_eq_zero).symm

/-- an odd number is invertible modulo a power of two -/
theorem odd_inv (d : Nat) (hd : d % 2 = 1) (e : Nat) : ∃ u v : Nat, d * u = 1 + 2 ^ e * v := by
  induction e with
  | zero => exact ⟨1, d - 1, by omega⟩
  | succ e ih =>
    obtain ⟨u, v, h⟩ := ih
    rcases Nat.mod_two_eq_zero_or_one v with h2 | h2
    · exact ⟨u, v / 2, by rw [h, Nat.pow_succ, Nat.mul_assoc, show 2 * (v / 2) = v by omega]⟩
    · refine ⟨u + 2 ^ e, (v + d) / 2, ?_⟩
      rw [Nat.mul_add, h, Nat.pow_succ, Nat.mul_assoc (2 ^ e), show 2 * ((v + d) / 2) = v + d by omega, Nat.mul_add, Nat.mul_comm d]
      omega
theorem neg_one_odd (n : Nat) (h : n % 2 = 1) : (-1 : Int) ^ n = -1 := by
  obtain ⟨k, rfl⟩ : ∃ k, n = 2 * k + 1 := ⟨n / 2, by omega⟩
  rw [Int.pow_succ, Int.pow_mul]; simp [Int.one_pow]
theorem neg_one_even (n : Nat) (h : n % 2 = 0) : (-1 : Int) ^ n = 1 := by
  obtain ⟨k, rfl⟩ : ∃ k, n = 2 * k := ⟨n / 2, by omega⟩
  rw [Int.pow_mul]; simp [Int.one_pow]
/-- the sign -/
def sg (s : Bool) : Int := if s then 1 else -1
theorem sg_odd (s : Bool) (n : Nat) (h : n % 2 = 1) : sg s ^ n = sg s := by
  cases s
  · exact neg_one_odd n h
  · exact Int.one_pow
theorem sg_even (s : Bool) (n : Nat) (h : n % 2 = 0) : sg s ^ n = 1 := by
  cases s
  · exact neg_one_even n h
  · exact Int.one_pow
/-- b^d = s with an odd d, and b^m = 1 with m = 2^e f, f odd: then b^f = s -/
theorem drop_twos {r b : Int} {d e f : Nat} {s : Bool} (hd : d % 2 = 1) (hf : f % 2 = 1) (he : 1 ≤ e) (h1 : C r (b ^ d) (sg s)) (h2 : C r (b ^ (2 ^ e * f)) 1) : C r (b ^ f) (sg s) := by
  obtain ⟨u, v, h⟩ := odd_inv d hd e
  have hu : u % 2 = 1 := by
    obtain ⟨e', rfl⟩ : ∃ e', e = e' + 1 := ⟨e - 1, by omega⟩
    have h3 : (d * u) % 2 = 1 := by rw [h, Nat.pow_succ, Nat.mul_comm (2 ^ e') 2, Nat.mul_assoc]; omega
    rcases Nat.mod_two_eq_zero_or_one u with h4 | h4
    · rw [Nat.mul_mod, h4] at h3; simp at h3
    · exact h4
  have a1 : C r ((b ^ f) ^ (d * u)) (sg s) := by
    have : C r ((b ^ d) ^ (f * u)) (sg s ^ (f * u)) := h1.pow _
    rw [sg_odd s (f * u) (by rw [Nat.mul_mod, hf, hu])] at this
    rw [← Int.pow_mul] at this ⊢
    rwa [show f * (d * u) = d * (f * u) by rw [← Nat.mul_assoc, Nat.mul_comm f d, Nat.mul_assoc]]
  have a2 : C r ((b ^ f) ^ (1 + 2 ^ e * v)) (b ^ f) := by
    rw [Int.pow_add, Int.pow_one, ← Int.pow_mul, show f * (2 ^ e * v) = 2 ^ e * f * v by rw [← Nat.mul_assoc, Nat.mul_comm f], Int.pow_mul]
    have := (C.rfl' (r := r) (x := b ^ f)).mul (h2.pow v)
    rwa [Int.one_pow, Int.mul_one] at this
  rw [h] at a1
  exact a2.symm.trans a1

def Pm (p : Nat) : Prop := 2 ≤ p ∧ ∀ m, m ∣ p → m = 1 ∨ m = p
theorem exists_pf (n : Nat) (h : 2 ≤ n) : ∃ p, Pm p ∧ p ∣ n := by
  induction n using Nat.strongRecOn with
  | ind n ih =>
    by_cases hp : Pm n
    · exact ⟨n, hp, Nat.dvd_refl n⟩
    · have : ∃ m, m ∣ n ∧ m ≠ 1 ∧ m ≠ n := by
        apply Classical.byContradiction
        intro hc
        exact hp ⟨h, fun m hm => by
          by_cases h1 : m = 1
          · exact .inl h1
          · by_cases h2 : m = n
            · exact .inr h2
            · exact absurd ⟨m, hm, h1, h2⟩ hc⟩
      obtain ⟨m, hm, h1, h2⟩ := this
      have h0 : m ≠ 0 := by rintro rfl; have := Nat.eq_zero_of_zero_dvd hm; omega
      have := Nat.le_of_dvd (by omega) hm
      obtain ⟨p, hp1, hp2⟩ := ih m (by omega) (by omega)
      exact ⟨p, hp1, Nat.dvd_trans hp2 hm⟩
theorem Pm.cop {p a : Nat} (hp : Pm p) (h : ¬ p ∣ a) : Nat.Coprime p a := by
  rcases hp.2 _ (Nat.gcd_dvd_left p a) with h1 | h1
  · exact h1
  · exact absurd (h1 ▸ Nat.gcd_dvd_right p a) h
theorem Pm.mul {p a b : Nat} (hp : Pm p) (h : p ∣ a * b) : p ∣ a ∨ p ∣ b := by
  by_cases ha : p ∣ a
  · exact .inl ha
  · exact .inr ((hp.cop ha).dvd_of_dvd_mul_left h)
theorem Pm.pow {p a n : Nat} (hp : Pm p) (h : p ∣ a ^ n) : p ∣ a := by
  induction n with
  | zero => simp at h; have := hp.1; omega
  | succ n ih =>
    rw [Nat.pow_succ] at h
    rcases hp.mul h with h | h
    · exact ih h
    · exact h

/- Fermat -/
def ch : Nat → Nat → Nat
  | _, 0 => 1
  | 0, _ + 1 => 0
  | n + 1, k + 1 => ch n k + ch n (k + 1)
theorem ch_zero (n : Nat) : ch n 0 = 1 := by cases n <;> rfl
theorem ch_big (n : Nat) : ∀ k, n < k → ch n k = 0 := by
  induction n with
  | zero => intro k h; cases k with
    | zero => omega
    | succ k => rfl
  | succ n ih => intro k h; cases k with
    | zero => omega
    | succ k => rw [ch, ih k (by omega), ih (k + 1) (by omega)]
theorem ch_self (n : Nat) : ch n n = 1 := by
  induction n with
  | zero => rfl
  | succ n ih => rw [ch, ih, ch_big n (n + 1) (by omega)]
theorem ch_abs (n : Nat) : ∀ k, (k + 1) * ch (n + 1) (k + 1) = (n + 1) * ch n k := by
  induction n with
  | zero => intro k; cases k with
    | zero => rfl
    | succ k => simp [ch]
  | succ n ih => intro k; cases k with
    | zero =>
      have h1 := ih 0
      have h2 : ch (n + 1 + 1) (0 + 1) = ch (n + 1) 0 + ch (n + 1) (0 + 1) := rfl
      rw [h2, ch_zero] 
      rw [ch_zero] at h1
      omega
    | succ k =>
      have h1 := ih k
      have h2 := ih (k + 1)
      have h3 : ch (n + 1 + 1) (k + 1 + 1) = ch (n + 1) (k + 1) + ch (n + 1) (k + 1 + 1) := rfl
      have h4 : ch (n + 1) (k + 1) = ch n k + ch n (k + 1) := rfl
      rw [h3, Nat.mul_add, h2, show k + 1 + 1 = (k + 1) + 1 from rfl, Nat.add_mul (k + 1) 1, h1, h4]
      simp only [Nat.mul_add, Nat.add_mul, Nat.one_mul]
      omega
def bs (n : Nat) (a : Nat) : Nat → Nat
  | 0 => 0
  | k + 1 => bs n a k + ch n k * a ^ k
theorem bs_step (n a : Nat) : ∀ k, bs (n + 1) a (k + 1) = bs n a (k + 1) + a * bs n a k := by
  intro k
  induction k with
  | zero => simp [bs, ch_zero]
  | succ k ih =>
    rw [bs, ih, bs, bs, show ch (n + 1) (k + 1) = ch n k + ch n (k + 1) from rfl, bs]
    rw [Nat.pow_succ, Nat.mul_add, Nat.add_mul]
    have : a * (ch n k * a ^ k) = ch n k * (a ^ k * a) := by rw [Nat.mul_comm a, Nat.mul_assoc]
    rw [this]
    omega
theorem bs_pow (n a : Nat) : bs n a (n + 1) = (a + 1) ^ n := by
  induction n with
  | zero => simp [bs, ch]
  | succ n ih =>
    rw [bs_step, bs, ch_big n (n + 1) (by omega), ih, Nat.pow_succ (a + 1), Nat.mul_add, Nat.mul_comm a]
    omega
theorem ch_dvd {p k : Nat} (hp : Pm p) (h0 : 0 < k) (h1 : k < p) : p ∣ ch p k := by
  obtain ⟨n, rfl⟩ : ∃ n, p = n + 1 := ⟨p - 1, by omega⟩
  obtain ⟨j, rfl⟩ : ∃ j, k = j + 1 := ⟨k - 1, by omega⟩
  have := ch_abs n j
  rcases hp.mul (a := j + 1) (b := ch (n + 1) (j + 1)) ⟨ch n j, this⟩ with h | h
  · have := Nat.le_of_dvd (by omega) h; omega
  · exact h
theorem bs_mod {p : Nat} (hp : Pm p) (a : Nat) : ∀ k, k + 1 ≤ p → ∃ m, bs p a (k + 1) = 1 + p * m := by
  intro k
  induction k with
  | zero => intro _; exact ⟨0, by simp [bs, ch_zero]⟩
  | succ k ih =>
    intro h
    obtain ⟨m, hm⟩ := ih (by omega)
    obtain ⟨c, hc⟩ := ch_dvd hp (show 0 < k + 1 by omega) (by omega)
    exact ⟨m + c * a ^ (k + 1), by rw [bs, hm, hc, Nat.mul_add, Nat.mul_assoc, Nat.add_assoc]⟩
theorem frob {p : Nat} (hp : Pm p) (a : Nat) : ∃ m, (a + 1) ^ p = a ^ p + 1 + p * m := by
  obtain ⟨n, rfl⟩ : ∃ n, p = n + 1 := ⟨p - 1, by have := hp.1; omega⟩
  obtain ⟨m, hm⟩ := bs_mod hp a n (Nat.le_refl _)
  refine ⟨m, ?_⟩
  rw [← bs_pow, bs, hm, ch_self]
  omega
theorem fermat0 {p : Nat} (hp : Pm p) (a : Nat) : ∃ m, a ^ p = a + p * m := by
  induction a with
  | zero => exact ⟨0, by rw [Nat.zero_pow (by have := hp.1; omega)]; simp⟩
  | succ a ih =>
    obtain ⟨m, h⟩ := ih
    obtain ⟨m', h'⟩ := frob hp a
    exact ⟨m + m', by rw [h', h, Nat.mul_add]; omega⟩
theorem fermat {p : Nat} (hp : Pm p) (a : Nat) (h : ¬ p ∣ a) : C p ((a : Int) ^ (p - 1)) 1 := by
  obtain ⟨m, hm⟩ := fermat0 hp a
  have h2 := hp.1
  have ha : 1 ≤ a := by
    rcases Nat.eq_zero_or_pos a with h0 | h0
    · subst h0; exact absurd (Nat.dvd_zero p) h
    · exact h0
  have h3 : a * (a ^ (p - 1) - 1) = p * m := by
    have e : a ^ p = a ^ (p - 1) * a := by rw [← Nat.pow_succ]; congr 1; omega
    rw [Nat.mul_sub, Nat.mul_comm a, ← e, hm]; omega
  have h4 : p ∣ a ^ (p - 1) - 1 := (hp.cop h).dvd_of_dvd_mul_left ⟨m, h3⟩
  have h5 : 1 ≤ a ^ (p - 1) := Nat.pow_pos ha
  rw [C.iff_dvd]
  have := Int.natCast_dvd_natCast.2 h4
  rw [Int.natCast_sub h5] at this
  simpa using this
end Go.Proofs.Ytidlfjaogjpokaa.Pr
