/- The enumeration: numbers made of primes that pass the same signs. -/
import Derived.Test.YtidlfjaogjpokaaPrimeA
namespace Go.Proofs.Ytidlfjaogjpokaa.Pr
def od : Nat → Nat → Nat
  | 0, n => n
  | k + 1, n => cond (Nat.beq (n % 2) 0) (od k (n / 2)) n
theorem od_spec (k : Nat) : ∀ n, 0 < n → n < 2 ^ k → ∃ e, n = 2 ^ e * od k n ∧ od k n % 2 = 1 ∧ (n % 2 = 0 → 1 ≤ e) := by
  induction k with
  | zero => intro n h h1; simp at h1; omega
  | succ k ih =>
    intro n h h1
    rw [od]
    by_cases he : n % 2 = 0
    · rw [he]
      obtain ⟨e, h2, h3, h4⟩ := ih (n / 2) (by omega) (by rw [Nat.pow_succ] at h1; omega)
      refine ⟨e + 1, ?_, h3, by omega⟩
      show n = 2 ^ (e + 1) * od k (n / 2)
      rw [Nat.pow_succ, Nat.mul_comm (2 ^ e) 2, Nat.mul_assoc, ← h2]; omega
    · have h5 : n % 2 = 1 := by omega
      rw [h5]
      exact ⟨0, by show n = 2 ^ 0 * n; omega, h5, by omega⟩
/-- b^e -+ 1 -/
def off (e : Nat) : Nat × Bool → Nat
  | (b, true) => b ^ e - 1
  | (b, false) => b ^ e + 1
theorem off_dvd {r e b : Nat} {s : Bool} (hb : 1 ≤ b) (h : C r ((b : Int) ^ e) (sg s)) : r ∣ off e (b, s) := by
  rw [C.iff_dvd] at h
  have h5 : 1 ≤ b ^ e := Nat.pow_pos hb
  cases s
  · have : ((b : Int) ^ e - sg false) = ((b ^ e + 1 : Nat) : Int) := by simp [sg]
    rw [this] at h
    exact Int.natCast_dvd_natCast.1 h
  · have : ((b : Int) ^ e - sg true) = ((b ^ e - 1 : Nat) : Int) := by rw [Int.natCast_sub h5]; simp [sg]
    rw [this] at h
    exact Int.natCast_dvd_natCast.1 h
def valid (bs : List (Nat × Bool)) (r : Nat) : Bool := bs.all fun x => Nat.beq (off (od 20 (r - 1)) x % r) 0
def gg (bs : List (Nat × Bool)) (f : Nat) : Nat := bs.foldr (fun x acc => Nat.gcd (off f x) acc) 0
theorem gg_dvd {bs : List (Nat × Bool)} {f r : Nat} (h : ∀ x ∈ bs, r ∣ off f x) : r ∣ gg bs f := by
  induction bs with
  | nil => exact Nat.dvd_zero r
  | cons x bs ih => exact Nat.dvd_gcd (h x (by simp)) (ih fun y hy => h y (by simp [hy]))
/-- 2^(n-1) mod n, by windows of eight bits -/
def fer (n : Nat) : Nat :=
  (((2 ^ ((n - 1) / 16777216) % n) ^ 256 * 2 ^ ((n - 1) / 65536 % 256) % n) ^ 256 * 2 ^ ((n - 1) / 256 % 256) % n) ^ 256 * 2 ^ ((n - 1) % 256) % n
theorem fer_eq (n : Nat) : fer n = 2 ^ (n - 1) % n := by
  have step : ∀ e d : Nat, (2 ^ e % n) ^ 256 * 2 ^ d % n = 2 ^ (e * 256 + d) % n := by
    intro e d
    rw [Nat.mul_mod, ← Nat.pow_mod, ← Nat.mul_mod, ← Nat.pow_mul, ← Nat.pow_add]
  unfold fer
  rw [step, step, step]
  congr 2
  omega
/-- all numbers n * m below B, where m is made of members of an ascending list -/
def dfs (c : Nat → Bool) (B : Nat) : Nat → List Nat → Nat → Bool
  | 0, _, _ => false
  | _ + 1, [], n => c n
  | k + 1, r :: L, n => cond (Nat.ble B (n * r)) (c n) (dfs c B k (r :: L) (n * r) && dfs c B k L n)
theorem dfs_spec (c : Nat → Bool) (B : Nat) : ∀ k L n, dfs c B k L n = true → L.Pairwise (· ≤ ·) → ∀ m, 0 < m → n * m < B → (∀ p, Pm p → p ∣ m → p ∈ L) → c (n * m) = true := by
  intro k
  induction k with
  | zero => intro L n h; simp [dfs] at h
  | succ k ih =>
    intro L n h hL m h0 hB hm
    have hone : ∀ m, 0 < m → (∀ p, Pm p → ¬ p ∣ m) → m = 1 := by
      intro m h0 h
      rcases Nat.lt_or_ge m 2 with h2 | h2
      · omega
      · obtain ⟨p, hp, hd⟩ := exists_pf m h2
        exact absurd hd (h p hp)
    cases L with
    | nil =>
      obtain rfl := hone m h0 fun p hp hd => by simpa using hm p hp hd
      simpa [dfs] using h
    | cons r L =>
      rw [dfs] at h
      have hL' := (List.pairwise_cons.1 hL)
      cases hb : Nat.ble B (n * r) with
      | true =>
        rw [hb] at h
        have hb' := Nat.le_of_ble_eq_true hb
        obtain rfl := hone m h0 fun p hp hd => by
          have h1 := hm p hp hd
          have h2 : r ≤ p := by
            rcases List.mem_cons.1 h1 with h3 | h3
            · omega
            · exact hL'.1 p h3
          have h3 := Nat.le_of_dvd h0 hd
          have h4 : n * r ≤ n * m := Nat.mul_le_mul_left n (by omega)
          omega
        simpa using h
      | false =>
        rw [hb] at h
        simp only [cond, Bool.and_eq_true] at h
        by_cases hd : r ∣ m
        · obtain ⟨m', rfl⟩ := hd
          have := ih (r :: L) (n * r) h.1 hL m' (Nat.pos_of_mul_pos_left h0 |> fun h => by
            rcases Nat.eq_zero_or_pos m' with h5 | h5
            · subst h5; simp at h0
            · exact h5) (by rw [Nat.mul_assoc]; exact hB) fun p hp hd => hm p hp (Nat.dvd_trans hd (Nat.dvd_mul_left _ _))
          rwa [Nat.mul_assoc] at this
        · refine ih L n h.2 hL'.2 m h0 hB fun p hp hd' => ?_
          rcases List.mem_cons.1 (hm p hp hd') with h5 | h5
          · subst h5; exact absurd hd' hd
          · exact h5
def allB (P : Nat → Bool) : Nat → Nat → Bool
  | 0, s => P s
  | k + 1, s => allB P k s && allB P k (s + 2 ^ k)
theorem allB_spec (P : Nat → Bool) : ∀ k s, allB P k s = true → ∀ i, s ≤ i → i < s + 2 ^ k → P i = true := by
  intro k
  induction k with
  | zero => intro s h i h1 h2; simp at h2; (obtain rfl : i = s := by omega); exact h
  | succ k ih =>
    intro s h i h1 h2
    simp only [allB, Bool.and_eq_true] at h
    rcases Nat.lt_or_ge i (s + 2 ^ k) with h3 | h3
    · exact ih s h.1 i h1 h3
    · exact ih _ h.2 i h3 (by rw [Nat.pow_succ] at h2; omega)
/-- has a number a common divisor with the odd primes below 100 that is neither 1 nor the number itself? -/
def comp (r : Nat) : Bool := cond (Nat.beq (Nat.gcd r 1152783981972759212376551073665878035) 1) false (!(Nat.beq (Nat.gcd r 1152783981972759212376551073665878035) r))
theorem comp_pm {r : Nat} (hr : Pm r) : comp r = false := by
  unfold comp
  rcases hr.2 _ (Nat.gcd_dvd_left r 1152783981972759212376551073665878035) with h | h
  · rw [h]; rfl
  · rw [h, Nat.beq_refl]; cases Nat.beq r 1 <;> rfl
def sieve (bs : List (Nat × Bool)) (L : List Nat) (i : Nat) : Bool := cond (comp (2 * i + 3)) true (cond (valid bs (2 * i + 3)) (L.any (Nat.beq (2 * i + 3))) true)
theorem sieve_mem {bs : List (Nat × Bool)} {L : List Nat} {r : Nat} (h : sieve bs L ((r - 3) / 2) = true) (hp : Pm r) (hr : 3 ≤ r) (h2 : r % 2 = 1) (hv : valid bs r = true) : r ∈ L := by
  have e : 2 * ((r - 3) / 2) + 3 = r := by omega
  unfold sieve at h
  rw [e, hv, comp_pm hp] at h
  simp only [cond, List.any_eq_true] at h
  obtain ⟨x, hx, hb⟩ := h
  rw [Nat.beq_eq] at hb
  exact hb ▸ hx
def asc : List Nat → Bool
  | [] => true
  | [_] => true
  | x :: y :: l => Nat.ble x y && asc (y :: l)
theorem asc_pw : ∀ l, asc l = true → l.Pairwise (· ≤ ·)
  | [], _ => List.Pairwise.nil
  | [x], _ => by simp
  | x :: y :: l, h => by
    simp only [asc, Bool.and_eq_true] at h
    have h1 := Nat.le_of_ble_eq_true h.1
    have h2 := asc_pw (y :: l) h.2
    refine List.pairwise_cons.2 ⟨fun z hz => ?_, h2⟩
    rcases List.mem_cons.1 hz with h3 | h3
    · omega
    · exact Nat.le_trans h1 ((List.pairwise_cons.1 h2).1 z h3)
/-- the test on a number that is wholly made of members of the list -/
def chkQ (n : Nat) : Bool := cond (Nat.ble n 1073741824) true (cond (Nat.beq (n % 8) 1) (!(Nat.beq (fer n) 1)) true)
/-- the test on the cofactor of a great prime -/
def chkK (bs : List (Nat × Bool)) (k : Nat) : Bool := Nat.ble 1 (gg bs (od 20 (k - 1))) && Nat.ble (gg bs (od 20 (k - 1)) * k) 1073741824

theorem core (bs : List (Nat × Bool)) (L : List Nat) (p0 : Nat) (hp0 : 3 ≤ p0) (hbs : ∀ x ∈ bs, 2 ≤ x.1)
    (hS : ∀ i, i < 43008 → sieve bs L i = true) (hL : L.Pairwise (· ≤ ·)) (hQ : ∃ k, dfs chkQ 2147483648 k L p0 = true) (hK : ∃ k, dfs (chkK bs) 25000 k L p0 = true)
    (q d e : Nat) (hp13 : p0 ≤ 13) (h0 : 1073741824 < q) (h1 : q < 2147483648) (h8 : q % 8 = 1) (hd : d % 2 = 1) (hq : q - 1 = 2 ^ e * d) (hp : p0 ∣ q) (hpp : Pm p0) (hf : 2 ^ (q - 1) % q = 1)
    (hb : ∀ x ∈ bs, C q ((x.1 : Int) ^ d) (sg x.2)) : False := by
  have he : 1 ≤ e := by
    rcases Nat.eq_zero_or_pos e with h | h
    · subst h; simp at hq; omega
    · exact h
  have h2e : (2 ^ e) % 2 = 0 := by
    obtain ⟨e', rfl⟩ : ∃ e', e = e' + 1 := ⟨e - 1, by omega⟩
    rw [Nat.pow_succ]; omega
  -- b^(q-1) = 1
  have hone : ∀ x ∈ bs, C q ((x.1 : Int) ^ (q - 1)) 1 := by
    intro x hx
    have := (hb x hx).pow (2 ^ e)
    rw [← Int.pow_mul, Nat.mul_comm, ← hq, sg_even _ _ h2e] at this
    exact this
  -- facts on the prime factors
  have hfac : ∀ r, Pm r → r ∣ q → r % 2 = 1 ∧ 3 ≤ r ∧ ∀ x ∈ bs, C r ((x.1 : Int) ^ d) (sg x.2) ∧ C r ((x.1 : Int) ^ (r - 1)) 1 := by
    intro r hr hrq
    have hodd : r % 2 = 1 := by
      rcases Nat.mod_two_eq_zero_or_one r with h | h
      · have : 2 ∣ q := Nat.dvd_trans (Nat.dvd_of_mod_eq_zero h) hrq
        omega
      · exact h
    have h3 : 3 ≤ r := by have := hr.1; omega
    refine ⟨hodd, h3, fun x hx => ?_⟩
    have h4 : C r ((x.1 : Int) ^ d) (sg x.2) := (hb x hx).dvd (Int.natCast_dvd_natCast.2 hrq)
    refine ⟨h4, fermat hr _ fun hd' => ?_⟩
    have h5 : C r (x.1 : Int) 0 := by rw [C.iff_dvd]; simpa using Int.natCast_dvd_natCast.2 hd'
    have h6 := (h5.pow d).symm.trans h4
    rw [Int.zero_pow (by omega)] at h6
    rw [C.iff_dvd] at h6
    have h7 : (r : Int) ∣ 1 := by
      cases hx2 : x.2
      · simpa [sg, hx2] using h6
      · simpa [sg, hx2] using h6
    have := Int.le_of_dvd (by omega) h7
    omega
  have hval : ∀ r, Pm r → r ∣ q → r < 86019 → r ∈ L := by
    intro r hr hrq hlt
    obtain ⟨hodd, h3, hx⟩ := hfac r hr hrq
    refine sieve_mem (hS _ (by omega)) hr h3 hodd ?_
    obtain ⟨e', h4, h5, h6⟩ := od_spec 20 (r - 1) (by omega) (by omega)
    unfold valid
    rw [List.all_eq_true]
    intro x hxm
    obtain ⟨h7, h8'⟩ := hx x hxm
    rw [h4] at h8'
    have h9 := off_dvd (by have := hbs x hxm; omega) (drop_twos hd h5 (h6 (by omega)) h7 h8')
    rw [Nat.beq_eq]
    exact Nat.mod_eq_zero_of_dvd h9
  by_cases hbig : ∃ r, Pm r ∧ r ∣ q ∧ 86019 ≤ r
  · obtain ⟨r, hr, ⟨k, hk⟩, hge⟩ := hbig
    have hrq : r ∣ q := ⟨k, hk⟩
    obtain ⟨hodd, h3, hx⟩ := hfac r hr hrq
    have hk1 : k < 25000 := by
      rcases Nat.lt_or_ge k 25000 with h | h
      · exact h
      · have := Nat.mul_le_mul hge h
        omega
    have hp' : p0 ∣ k := by
      rw [hk] at hp
      rcases hpp.mul hp with h | h
      · rcases hr.2 _ h with h | h <;> omega
      · exact h
    have hk0 : k ≠ 0 := by rintro rfl; omega
    have hk2 : k % 2 = 1 := by
      rcases Nat.mod_two_eq_zero_or_one k with h | h
      · have : 2 ∣ q := Nat.dvd_trans (Nat.dvd_of_mod_eq_zero h) ⟨r, by rw [hk, Nat.mul_comm]⟩
        omega
      · exact h
    have hk3 := Nat.le_of_dvd (by omega) hp'
    obtain ⟨m, hm⟩ := hp'
    obtain ⟨K, hK⟩ := hK
    have hc := dfs_spec _ _ K L p0 hK hL m (by
      rcases Nat.eq_zero_or_pos m with h | h
      · subst h; omega
      · exact h) (by omega) fun p hp1 hp2 => by
        have h4 : p ∣ k := Nat.dvd_trans hp2 ⟨p0, by rw [hm, Nat.mul_comm]⟩
        have h5 := Nat.le_of_dvd (by omega) h4
        exact hval p hp1 (Nat.dvd_trans h4 ⟨r, by rw [hk, Nat.mul_comm]⟩) (by omega)
    rw [← hm] at hc
    unfold chkK at hc
    rw [Bool.and_eq_true] at hc
    have c1 := Nat.le_of_ble_eq_true hc.1
    have c2 := Nat.le_of_ble_eq_true hc.2
    obtain ⟨e', h4, h5, h6⟩ := od_spec 20 (k - 1) (by omega) (by omega)
    have hg : r ∣ gg bs (od 20 (k - 1)) := gg_dvd fun x hxm => by
      obtain ⟨h7, h8'⟩ := hx x hxm
      have h9 : C r ((x.1 : Int) ^ (q - 1)) 1 := (hone x hxm).dvd (Int.natCast_dvd_natCast.2 hrq)
      have e1 : q - 1 = (r - 1) * k + (k - 1) := by
        rw [hk, Nat.sub_mul, Nat.one_mul]
        have : k ≤ r * k := Nat.le_mul_of_pos_left k (by omega)
        omega
      rw [e1, Int.pow_add, Int.pow_mul] at h9
      have h10 := ((h8'.pow k).mul (C.rfl' (r := r) (x := (x.1 : Int) ^ (k - 1)))).symm.trans h9
      rw [Int.one_pow, Int.one_mul, h4] at h10
      exact off_dvd (by have := hbs x hxm; omega) (drop_twos hd h5 (h6 (by omega)) h7 h10)
    have h11 := Nat.le_of_dvd (by omega) hg
    have h12 := Nat.mul_le_mul_right k h11
    omega
  · obtain ⟨m, hm⟩ := hp
    obtain ⟨K, hQ⟩ := hQ
    have hc := dfs_spec _ _ K L p0 hQ hL m (by
      rcases Nat.eq_zero_or_pos m with h | h
      · subst h; omega
      · exact h) (by omega) fun p hp1 hp2 => by
        have h4 : p ∣ q := Nat.dvd_trans hp2 ⟨p0, by rw [hm, Nat.mul_comm]⟩
        refine hval p hp1 h4 ?_
        rcases Nat.lt_or_ge p 86019 with h5 | h5
        · exact h5
        · exact absurd ⟨p, hp1, h4, h5⟩ hbig
    rw [← hm] at hc
    unfold chkQ at hc
    have b1 : Nat.ble q 1073741824 = false := by
      cases h : Nat.ble q 1073741824
      · rfl
      · have := Nat.le_of_ble_eq_true h; omega
    rw [b1, h8, fer_eq, hf] at hc
    simp at hc
end Go.Proofs.Ytidlfjaogjpokaa.Pr
