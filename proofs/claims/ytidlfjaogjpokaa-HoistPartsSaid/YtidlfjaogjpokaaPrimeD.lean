/- The program's test for primes and the reference's agree where they are asked. -/
import Derived.Test.YtidlfjaogjpokaaPrimeC
import Derived.Test.YtidlfjaogjpokaaMath
namespace Go.Proofs.Ytidlfjaogjpokaa.Pr
/-- the strong test, told by congruences -/
def St (a q : Int) (d e : Nat) : Prop := C q (a ^ d) 1 ∨ ∃ i, i < e ∧ C q (a ^ (2 ^ i * d)) (-1)
theorem period {p a : Int} {o : Nat} (h : C p (a ^ o) 1) (n : Nat) : C p (a ^ n) (a ^ (n % o)) := by
  have e : a ^ n = (a ^ o) ^ (n / o) * a ^ (n % o) := by rw [← Int.pow_mul, ← Int.pow_add, Nat.div_add_mod]
  rw [e]
  have := (h.pow (n / o)).mul (C.rfl' (r := p) (x := a ^ (n % o)))
  rwa [Int.one_pow, Int.one_mul] at this
theorem mod_even {o n : Nat} (ho : o % 2 = 0) : (n % o) % 2 = n % 2 := Nat.mod_mod_of_dvd n (Nat.dvd_of_mod_eq_zero ho)
theorem mod_four {o n : Nat} (ho : o % 4 = 0) : (n % o) % 4 = n % 4 := Nat.mod_mod_of_dvd n (Nat.dvd_of_mod_eq_zero ho)
theorem two_pow_even {i d : Nat} (h : 1 ≤ i) : (2 ^ i * d) % 2 = 0 := by
  obtain ⟨j, rfl⟩ : ∃ j, i = j + 1 := ⟨i - 1, by omega⟩
  rw [Nat.pow_succ, Nat.mul_comm (2 ^ j), Nat.mul_assoc]; omega
theorem two_pow_four {i d : Nat} (h : 2 ≤ i) : (2 ^ i * d) % 4 = 0 := by
  obtain ⟨j, rfl⟩ : ∃ j, i = j + 2 := ⟨i - 2, by omega⟩
  rw [Nat.pow_add, Nat.mul_comm (2 ^ j), Nat.mul_assoc]; omega
/-- -1 at the first place -/
theorem st_neg {p a q : Int} {d e o : Nat} (hp : p ∣ q) (hd : d % 2 = 1) (ho : o % 2 = 0) (ho0 : 0 < o) (h : C p (a ^ o) 1) (h1 : ∀ x, x < o → x % 2 = 1 → ¬ C p (a ^ x) 1) (h2 : ∀ x, x < o → x % 2 = 0 → ¬ C p (a ^ x) (-1)) (hs : St a q d e) : C q (a ^ d) (-1) := by
  rcases hs with hs | ⟨i, hi, hs⟩
  · exact absurd ((period h d).symm.trans (hs.dvd hp)) (h1 _ (Nat.mod_lt _ ho0) (by rw [mod_even ho]; exact hd))
  · rcases Nat.eq_zero_or_pos i with h0 | h0
    · subst h0; simpa using hs
    · exact absurd ((period h _).symm.trans (hs.dvd hp)) (h2 _ (Nat.mod_lt _ ho0) (by rw [mod_even ho]; exact two_pow_even h0))
/-- never -1 -/
theorem st_pos {p a q : Int} {d e o : Nat} (hp : p ∣ q) (ho0 : 0 < o) (h : C p (a ^ o) 1) (h2 : ∀ x, x < o → ¬ C p (a ^ x) (-1)) (hs : St a q d e) : C q (a ^ d) 1 := by
  rcases hs with hs | ⟨i, hi, hs⟩
  · exact hs
  · exact absurd ((period h _).symm.trans (hs.dvd hp)) (h2 _ (Nat.mod_lt _ ho0))
/-- -1 at the second place -/
theorem st_two {p a q : Int} {d e o : Nat} (hp : p ∣ q) (hd : d % 2 = 1) (ho : o % 4 = 0) (ho0 : 0 < o) (h : C p (a ^ o) 1) (h1 : ∀ x, x < o → x % 2 = 1 → ¬ C p (a ^ x) 1 ∧ ¬ C p (a ^ x) (-1)) (h2 : ∀ x, x < o → x % 4 = 0 → ¬ C p (a ^ x) (-1)) (hs : St a q d e) : C q ((a * a) ^ d) (-1) := by
  rcases hs with hs | ⟨i, hi, hs⟩
  · exact absurd ((period h d).symm.trans (hs.dvd hp)) (h1 _ (Nat.mod_lt _ ho0) (by rw [mod_even (by omega)]; exact hd)).1
  · rcases Nat.eq_zero_or_pos i with h0 | h0
    · subst h0
      rw [Nat.pow_zero, Nat.one_mul] at hs
      exact absurd ((period h d).symm.trans (hs.dvd hp)) (h1 _ (Nat.mod_lt _ ho0) (by rw [mod_even (by omega)]; exact hd)).2
    · rcases Nat.lt_or_ge 1 i with h3 | h3
      · exact absurd ((period h _).symm.trans (hs.dvd hp)) (h2 _ (Nat.mod_lt _ ho0) (by rw [mod_four ho]; exact two_pow_four h3))
      · obtain rfl : i = 1 := by omega
        rw [Int.pow_mul] at hs
        rwa [show a * a = a ^ (2 ^ 1) by simp [Int.pow_succ]]
instance (r x y : Int) : Decidable (C r x y) := inferInstanceAs (Decidable (x % r = y % r))
theorem pm_of (p : Nat) (h : 2 ≤ p) (hd : ∀ m, m < p + 1 → m ∣ p → m = 1 ∨ m = p) : Pm p := ⟨h, fun m hm => hd m (by have := Nat.le_of_dvd (by omega) hm; omega) hm⟩
theorem no_small (q d e : Nat) (h0 : 1073741824 < q) (h1 : q < 2147483648) (h8 : q % 8 = 1) (hd : d % 2 = 1) (hq : q - 1 = 2 ^ e * d) (s2 : St 2 q d e) (s7 : St 7 q d e) (s61 : St 61 q d e) :
    ¬ 3 ∣ q ∧ ¬ 5 ∣ q ∧ ¬ 11 ∣ q ∧ ¬ 13 ∣ q := by
  have he : 1 ≤ e := by
    rcases Nat.eq_zero_or_pos e with h | h
    · subst h; simp at hq; omega
    · exact h
  have hf : 2 ^ (q - 1) % q = 1 := by
    have : C q ((2 : Int) ^ (q - 1)) 1 := by
      rcases s2 with h | ⟨i, hi, h⟩
      · have := h.pow (2 ^ e)
        rw [← Int.pow_mul, Nat.mul_comm, ← hq, Int.one_pow] at this
        exact this
      · have := h.pow (2 ^ (e - i))
        rw [← Int.pow_mul, Nat.mul_right_comm, ← Nat.pow_add, show i + (e - i) = e by omega, ← hq, neg_one_even _ (by have := two_pow_even (i := e - i) (d := 1) (by omega); simpa using this)] at this
        exact this
    unfold C at this
    have h3 : ((2 ^ (q - 1) % q : Nat) : Int) = ((1 % q : Nat) : Int) := by simpa using this
    have h4 : 1 % q = 1 := Nat.mod_eq_of_lt (by omega)
    omega
  refine ⟨fun h => ?_, fun h => ?_, fun h => ?_, fun h => ?_⟩
  · have hp : (3 : Int) ∣ q := Int.natCast_dvd_natCast.2 h
    refine core B1 L1 3 (by omega) (by decide) s1 a1 ⟨_, q3⟩ ⟨_, k3⟩ q d e (by omega) h0 h1 h8 hd hq h (pm_of 3 (by decide) (by decide)) hf ?_
    intro x hx
    simp only [B1, List.mem_cons, List.not_mem_nil, or_false] at hx
    rcases hx with rfl | rfl | rfl
    · exact st_neg (o := 12) hp hd (by decide) (by decide) (by decide) (by decide +kernel) (by decide +kernel) s2
    · exact st_pos (o := 12) hp (by decide) (by decide +kernel) (by decide +kernel) s7
    · exact st_pos (o := 12) hp (by decide) (by decide +kernel) (by decide +kernel) s61
  · have hp : (5 : Int) ∣ q := Int.natCast_dvd_natCast.2 h
    refine core B2 L2 5 (by omega) (by decide) svB a2 ⟨_, q5⟩ ⟨_, k5⟩ q d e (by omega) h0 h1 h8 hd hq h (pm_of 5 (by decide) (by decide)) hf ?_
    intro x hx
    simp only [B2, List.mem_cons, List.not_mem_nil, or_false] at hx
    rcases hx with rfl | rfl | rfl
    · exact st_two (a := 2) (o := 12) hp hd (by decide) (by decide) (by decide) (by decide +kernel) (by decide +kernel) s2
    · exact st_two (a := 7) (o := 12) hp hd (by decide) (by decide) (by decide +kernel) (by decide +kernel) (by decide +kernel) s7
    · exact st_pos (o := 12) hp (by decide) (by decide +kernel) (by decide +kernel) s61
  · have hp : (11 : Int) ∣ q := Int.natCast_dvd_natCast.2 h
    refine core B3 L3 11 (by omega) (by decide) s3 a3 ⟨_, q11⟩ ⟨_, k11⟩ q d e (by omega) h0 h1 h8 hd hq h (pm_of 11 (by decide) (by decide)) hf ?_
    intro x hx
    simp only [B3, List.mem_cons, List.not_mem_nil, or_false] at hx
    rcases hx with rfl | rfl | rfl
    · exact st_neg (o := 10) hp hd (by decide) (by decide) (by decide) (by decide +kernel) (by decide +kernel) s2
    · exact st_neg (o := 10) hp hd (by decide) (by decide) (by decide +kernel) (by decide +kernel) (by decide +kernel) s7
    · exact st_neg (o := 10) hp hd (by decide) (by decide) (by decide +kernel) (by decide +kernel) (by decide +kernel) s61
  · have hp : (13 : Int) ∣ q := Int.natCast_dvd_natCast.2 h
    refine core B2 L2 13 (by omega) (by decide) svB a2 ⟨_, q13⟩ ⟨_, k13⟩ q d e (by omega) h0 h1 h8 hd hq h (pm_of 13 (by decide) (by decide)) hf ?_
    intro x hx
    simp only [B2, List.mem_cons, List.not_mem_nil, or_false] at hx
    rcases hx with rfl | rfl | rfl
    · exact st_two (a := 2) (o := 12) hp hd (by decide) (by decide) (by decide +kernel) (by decide +kernel) (by decide +kernel) s2
    · exact st_two (a := 7) (o := 12) hp hd (by decide) (by decide) (by decide +kernel) (by decide +kernel) (by decide +kernel) s7
    · exact st_pos (o := 12) hp (by decide) (by decide +kernel) (by decide +kernel) s61
end Go.Proofs.Ytidlfjaogjpokaa.Pr
