/- The walk of params.Modulus. -/
import Derived.Test.YtidlfjaogjpokaaParB
namespace Go.Proofs.Ytidlfjaogjpokaa
open Go.RowKit

theorem checkOf_NP {prime : Int → Bool} {N pr pw : Int} {ch : List Int} {sp wt er : Int} (hk : M.checkOf prime N pr pw ch sp wt er = true) : 4 ≤ N ∧ N ≤ 32 := by
  have := M.dimB_le N (checkOf_dim hk)
  omega

set_option maxRecDepth 100000 in
theorem pmodulus_ok (N pr pw sp wt er x : Int) (A : Option Addr) (l : List Int) (c : Nat) (w : World) (hl : Rd w A (ints .u32 l)) (hc : l.length ≤ c) (hb : ∀ q ∈ l, 0 ≤ q ∧ q < 4294967296)
    (p0 : 0 ≤ pr) (p1 : pr < 4294967296) (r0 : -9223372036854775808 ≤ pw) (r1 : pw ≤ 9223372036854775807) (s0 : 0 ≤ sp) (s1 : sp < 4294967296) (hlen : l.length ≤ 100000)
    (hk : M.checkOf M.primeP N pr pw l sp wt er = true) (x1 : 1 ≤ x) (x2 : x ≤ pw) :
    Calls Try.prog 36 #[.agg #[.int .i64 N, .int .u32 pr, .int .i64 pw, .slice A l.length c, .int .u32 sp, .int .i64 wt, .int .u32 er], .int .i64 x] w
      fun e w' => e = .returned (.tuple #[.int .i64 (M.plainOf M.primeP N pr x), .int .i64 0]) ∧ Below w.heap.size w w' := by
  have HC1 := Lib.hid (pcheck_any N pr pw sp wt er A l c _ (hl.alloc (.cells #[.int .i64 N, .int .u32 pr, .int .i64 pw, .slice A l.length c, .int .u32 sp, .int .i64 wt, .int .u32 er] 25)) hc hb p0 p1 r0 r1 s0 s1 hlen)
  have hB := (Below.refl w.heap.size w).alloc (Nat.le_refl _) (.cells #[.int .i64 N, .int .u32 pr, .int .i64 pw, .slice A l.length c, .int .u32 sp, .int .i64 wt, .int .u32 er] 25)
  clear hl hb
  have hN := checkOf_NP hk
  rw [hk] at HC1
  clear hk
  go_enter Try.func36, Try.ntmps36
  go_wp2_with fail
  refine HC1.out.mono ?_
  rintro e w1 ⟨rfl, hb⟩
  obtain ⟨hcc, hcf⟩ := bcell hb
  have hB1 := bl_then hB hb (Nat.le_refl _)
  simp only [M.errno, if_true]
  go_wp2_with (go_at_call 48; refine (ppower_any _ _ _ _ hN.1 hN.2 p0 p1 (by omega) (by omega)).mono ?_; rintro e w' ⟨rfl, hb2⟩)
  all_goals first
    | (exfalso; omega)
    | (go_ret2; exact ⟨rfl, bl_then hB1 hb2 (Nat.le_refl _)⟩)

set_option maxRecDepth 100000 in
theorem pmodulus_no (N pr pw sp wt er x : Int) (A : Option Addr) (l : List Int) (c : Nat) (w : World) (hl : Rd w A (ints .u32 l)) (hc : l.length ≤ c) (hb : ∀ q ∈ l, 0 ≤ q ∧ q < 4294967296)
    (p0 : 0 ≤ pr) (p1 : pr < 4294967296) (r0 : -9223372036854775808 ≤ pw) (r1 : pw ≤ 9223372036854775807) (s0 : 0 ≤ sp) (s1 : sp < 4294967296) (hlen : l.length ≤ 100000)
    (hk : ¬ (M.checkOf M.primeP N pr pw l sp wt er = true ∧ 1 ≤ x ∧ x ≤ pw)) :
    Calls Try.prog 36 #[.agg #[.int .i64 N, .int .u32 pr, .int .i64 pw, .slice A l.length c, .int .u32 sp, .int .i64 wt, .int .u32 er], .int .i64 x] w
      fun e w' => e = .returned (.tuple #[.int .i64 0, .int .i64 2]) ∧ Below w.heap.size w w' := by
  have HC1 := Lib.hid (pcheck_any N pr pw sp wt er A l c _ (hl.alloc (.cells #[.int .i64 N, .int .u32 pr, .int .i64 pw, .slice A l.length c, .int .u32 sp, .int .i64 wt, .int .u32 er] 25)) hc hb p0 p1 r0 r1 s0 s1 hlen)
  have hB := (Below.refl w.heap.size w).alloc (Nat.le_refl _) (.cells #[.int .i64 N, .int .u32 pr, .int .i64 pw, .slice A l.length c, .int .u32 sp, .int .i64 wt, .int .u32 er] 25)
  clear hl hb
  by_cases h : M.checkOf M.primeP N pr pw l sp wt er = true
  · have hx : x < 1 ∨ pw < x := by
      by_cases h1 : 1 ≤ x
      · right
        rcases Int.lt_or_le pw x with h2 | h2
        · exact h2
        · exact absurd ⟨h, h1, h2⟩ hk
      · left; omega
    rw [h] at HC1
    clear hk h
    go_enter Try.func36, Try.ntmps36
    go_wp2_with fail
    refine HC1.out.mono ?_
    rintro e w1 ⟨rfl, hb⟩
    obtain ⟨hcc, hcf⟩ := bcell hb
    have hB1 := bl_then hB hb (Nat.le_refl _)
    simp only [M.errno, if_true]
    rcases hx with hx | hx
    all_goals
      go_wp2
      all_goals first
        | (exfalso; omega)
        | (go_ret2; exact ⟨rfl, hB1⟩)
  · replace h : M.checkOf M.primeP N pr pw l sp wt er = false := by simpa using h
    rw [h] at HC1
    clear hk h
    go_enter Try.func36, Try.ntmps36
    go_wp2_with fail
    refine HC1.out.mono ?_
    rintro e w1 ⟨rfl, hb⟩
    obtain ⟨hcc, hcf⟩ := bcell hb
    have hB1 := bl_then hB hb (Nat.le_refl _)
    simp only [M.errno]
    go_wp2
    go_ret2
    exact ⟨rfl, hB1⟩
end Go.Proofs.Ytidlfjaogjpokaa
