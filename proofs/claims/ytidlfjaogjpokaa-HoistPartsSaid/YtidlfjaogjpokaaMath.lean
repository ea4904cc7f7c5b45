/- Plain mathematics of the modular layer: powers by squaring, as the code computes them. -/
namespace Go.Proofs.Ytidlfjaogjpokaa.M
/-- the loop of 'power': with fuel k: out, a, e -/
def powGo (n : Int) : Nat → Int → Int → Int → Int
  | 0, out, _, _ => out
  | k + 1, out, a, e => if e ≤ 0 then out else powGo n k (if e % 2 = 1 then out * a % n else out) (a * a % n) (e / 2)
def pow (a e n : Int) : Int := powGo n 64 1 a e
theorem powGo_stop (n out a e : Int) (k : Nat) (h : e ≤ 0) : powGo n k out a e = out := by cases k <;> simp [powGo, h]
theorem powGo_step (n out a e : Int) (k : Nat) (h : 0 < e) : powGo n (k + 1) out a e = powGo n k (if e % 2 = 1 then out * a % n else out) (a * a % n) (e / 2) := by
  rw [powGo, if_neg (by omega)]
theorem powGo_lt (n : Int) (hn : 2 ≤ n) (k : Nat) : ∀ (out a e : Int), 0 ≤ out → out < n → 0 ≤ powGo n k out a e ∧ powGo n k out a e < n := by
  induction k with
  | zero => intro out a e h0 h1; exact ⟨h0, h1⟩
  | succ k ih =>
    intro out a e h0 h1
    rw [powGo]
    by_cases he : e ≤ 0
    · rw [if_pos he]; exact ⟨h0, h1⟩
    · rw [if_neg he]
      by_cases hb : e % 2 = 1
      · rw [if_pos hb]; exact ih _ _ _ (Int.emod_nonneg _ (by omega)) (Int.emod_lt_of_pos _ (by omega))
      · rw [if_neg hb]; exact ih _ _ _ h0 h1
theorem pow_lt (a e n : Int) (hn : 2 ≤ n) : 0 ≤ pow a e n ∧ pow a e n < n := powGo_lt n hn 64 1 a e (by omega) (by omega)
/-- the odd part of a number, and how often 2 divides it; with fuel -/
def oddGo : Nat → Int → Int → Int × Int
  | 0, d, s => (d, s)
  | k + 1, d, s => if d % 2 = 0 then oddGo k (d / 2) (s + 1) else (d, s)
theorem oddGo_stop (k : Nat) (d s : Int) (h : d % 2 ≠ 0) : oddGo k d s = (d, s) := by cases k <;> simp [oddGo, h]
theorem oddGo_step (k : Nat) (d s : Int) (h : d % 2 = 0) : oddGo (k + 1) d s = oddGo k (d / 2) (s + 1) := by rw [oddGo, if_pos h]
theorem oddGo_spec (k : Nat) : ∀ (d s : Int), 0 < d → d < 2 ^ k → 0 ≤ s → (oddGo k d s).1 % 2 = 1 ∧ 0 < (oddGo k d s).1 ∧ s ≤ (oddGo k d s).2 ∧ (oddGo k d s).2 ≤ s + k ∧ d = (oddGo k d s).1 * 2 ^ ((oddGo k d s).2 - s).toNat := by
  induction k with
  | zero => intro d s h h1; simp at h1; omega
  | succ k ih =>
    intro d s h h1 h2
    rw [oddGo]
    by_cases he : d % 2 = 0
    · rw [if_pos he]
      have h3 : d / 2 < 2 ^ k := by
        have : (2 : Int) ^ (k + 1) = 2 ^ k * 2 := by rw [Int.pow_succ]
        rw [this] at h1
        generalize (2 : Int) ^ k = q at h1 ⊢
        omega
      obtain ⟨a, b, c, d', e⟩ := ih (d / 2) (s + 1) (by omega) h3 (by omega)
      refine ⟨a, b, by omega, by omega, ?_⟩
      have : ((oddGo k (d / 2) (s + 1)).2 - s).toNat = ((oddGo k (d / 2) (s + 1)).2 - (s + 1)).toNat + 1 := by omega
      rw [this, Int.pow_succ, ← Int.mul_assoc, ← e]
      omega
    · rw [if_neg he]
      refine ⟨by omega, h, by omega, by omega, ?_⟩
      simp
def odd (n : Int) : Int := (oddGo 32 (n - 1) 0).1
def twos (n : Int) : Int := (oddGo 32 (n - 1) 0).2
theorem odd_spec (n : Int) (h : 3 ≤ n) (h1 : n < 4294967296) : odd n % 2 = 1 ∧ 0 < odd n ∧ 0 ≤ twos n ∧ twos n ≤ 32 ∧ n - 1 = odd n * 2 ^ (twos n).toNat := by
  have := oddGo_spec 32 (n - 1) 0 (by omega) (by omega) (by omega)
  simpa [odd, twos] using this
theorem odd_lt (n : Int) (h : 3 ≤ n) (h1 : n < 4294967296) : odd n ≤ n - 1 := by
  obtain ⟨a, b, c, d, e⟩ := odd_spec n h h1
  have h2 : (1 : Int) ≤ 2 ^ (twos n).toNat := by exact_mod_cast Nat.one_le_two_pow
  have h3 : odd n * 1 ≤ odd n * 2 ^ (twos n).toNat := Int.mul_le_mul_of_nonneg_left h2 (by omega)
  omega
theorem twos_pos (n : Int) (h : 3 ≤ n) (h1 : n < 4294967296) (h2 : n % 2 = 1) : 1 ≤ twos n := by
  obtain ⟨a, b, c, d, e⟩ := odd_spec n h h1
  by_cases h0 : twos n = 0
  · rw [h0] at e; simp at e; omega
  · omega
/-- is -1 among x, x^2, x^4, .. (k of them)? -/
def chk (n : Int) : Nat → Int → Bool
  | 0, _ => false
  | k + 1, x => x == n - 1 || chk n k (x * x % n)
def strong (a n : Int) : Bool := pow (a % n) (odd n) n == 1 || chk n (twos n).toNat (pow (a % n) (odd n) n)
theorem chk_yes (n x : Int) (k : Nat) (h : x = n - 1) : chk n (k + 1) x = true := by simp [chk, h]
theorem chk_no (n x : Int) (k : Nat) (h : x ≠ n - 1) : chk n (k + 1) x = chk n k (x * x % n) := by simp [chk, h]
/-- the program's test: trial divisions, then the strong tests -/
def trial (n : Int) : List Int → Bool → Bool
  | [], r => r
  | p :: l, r => if n % p = 0 then n == p else trial n l r
def strongs (n : Int) : List Int → Bool
  | [] => true
  | a :: l => strong a n && strongs n l
def primeP (n : Int) : Bool := if n < 2 then false else trial n [2, 3, 5, 7, 11, 13, 61] (strongs n [2, 7, 61])
/-- the reference's test -/
def primeR (n : Int) : Bool :=
  if n = 2 ∨ n = 7 ∨ n = 61 then true else
  decide (2 < n) && decide (n % 2 = 1) && decide (0 < n % 7) && decide (0 < n % 61) && strong 2 n && strong 7 n && strong 61 n
end Go.Proofs.Ytidlfjaogjpokaa.M
namespace Go.Proofs.Ytidlfjaogjpokaa.M
def dimB (n : Int) : Bool := n == 4 || n == 8 || n == 16 || n == 32
/-- the power of a prime that is a plain modulus; 0: there is none -/
def plainGo (p : Int) : Nat → Int → Int
  | 0, t => t
  | k + 1, t => if t * p > 2147483647 then 0 else plainGo p k (t * p)
def plainOf (prime : Int → Bool) (n p r : Int) : Int :=
  if p < 3 ∨ 65536 ≤ p ∨ prime p = false ∨ p % (2 * n) ≠ 1 ∨ r < 1 then 0 else plainGo p r.toNat 1
def goodOf (prime : Int → Bool) (n t q : Int) : Bool := decide (1073741824 < q) && decide (q ≤ 2147483647) && prime q && (q % (2 * n * t) == 1)
end Go.Proofs.Ytidlfjaogjpokaa.M
namespace Go.Proofs.Ytidlfjaogjpokaa.M
/-- the chain's primes, in order: each is good, below the special one, and none of those before it -/
def chainGo (good : Int → Bool) (sp : Int) : List Int → List Int → Bool
  | _, [] => true
  | pre, q :: l => good q && decide (q < sp) && !(pre.contains q) && chainGo good sp (pre ++ [q]) l
def checkOf (prime : Int → Bool) (N pr pw : Int) (ch : List Int) (sp wt er : Int) : Bool :=
  dimB N && decide (1 ≤ ch.length) && decide (ch.length ≤ 24) && decide (1 ≤ wt) && decide (wt ≤ N) && decide (er ≤ 64) &&
  (plainOf prime N pr pw != 0) && goodOf prime N (plainOf prime N pr pw) sp && chainGo (goodOf prime N (plainOf prime N pr pw)) sp [] ch
def errno (b : Bool) : Int := if b then 0 else 2
theorem checkOf_yes {prime : Int → Bool} {N pr pw : Int} {ch : List Int} {sp wt er : Int} (h0 : dimB N = true) (h1 : (1 : Int) ≤ ch.length) (h2 : (ch.length : Int) ≤ 24) (h3 : 1 ≤ wt) (h4 : wt ≤ N) (h5 : er ≤ 64)
    (h6 : plainOf prime N pr pw ≠ 0) (h7 : goodOf prime N (plainOf prime N pr pw) sp = true) : checkOf prime N pr pw ch sp wt er = chainGo (goodOf prime N (plainOf prime N pr pw)) sp [] ch := by
  have a1 : decide (1 ≤ ch.length) = true := decide_eq_true (by omega)
  have a2 : decide (ch.length ≤ 24) = true := decide_eq_true (by omega)
  have a6 : (plainOf prime N pr pw != 0) = true := by simpa using h6
  unfold checkOf
  rw [h0, a1, a2, decide_eq_true h3, decide_eq_true h4, decide_eq_true h5, a6, h7]
  rfl
theorem checkOf_no {prime : Int → Bool} {N pr pw : Int} {ch : List Int} {sp wt er : Int} (h : dimB N = false ∨ (ch.length : Int) < 1 ∨ 24 < (ch.length : Int) ∨ wt < 1 ∨ N < wt ∨ 64 < er ∨ plainOf prime N pr pw = 0 ∨ goodOf prime N (plainOf prime N pr pw) sp = false) :
    checkOf prime N pr pw ch sp wt er = false := by
  unfold checkOf
  rcases h with h | h | h | h | h | h | h | h
  · simp [h]
  · have a1 : decide (1 ≤ ch.length) = false := decide_eq_false (by omega)
    simp [a1]
  · have a1 : decide (ch.length ≤ 24) = false := decide_eq_false (by omega)
    simp [a1]
  · simp [decide_eq_false (show ¬ 1 ≤ wt by omega)]
  · simp [decide_eq_false (show ¬ wt ≤ N by omega)]
  · simp [decide_eq_false (show ¬ er ≤ 64 by omega)]
  · simp [h]
  · simp [h]
theorem plainGo_le (p : Int) (hp : 1 ≤ p) (k : Nat) : ∀ t : Int, 1 ≤ t → t ≤ 2147483647 → 0 ≤ plainGo p k t ∧ plainGo p k t ≤ 2147483647 := by
  induction k with
  | zero => intro t h h'; exact ⟨by simp only [plainGo]; omega, h'⟩
  | succ k ih =>
    intro t h h'
    rw [plainGo]
    have := Int.mul_le_mul h hp (by omega) (by omega)
    split
    · omega
    · exact ih _ (by omega) (by omega)
theorem plainOf_le (prime : Int → Bool) (n p r : Int) : 0 ≤ plainOf prime n p r ∧ plainOf prime n p r ≤ 2147483647 := by
  unfold plainOf
  split
  · omega
  · exact plainGo_le p (by omega) _ 1 (by omega) (by omega)
theorem dimB_le (n : Int) (h : dimB n = true) : n = 4 ∨ n = 8 ∨ n = 16 ∨ n = 32 := by
  simp [dimB] at h
  omega
end Go.Proofs.Ytidlfjaogjpokaa.M
