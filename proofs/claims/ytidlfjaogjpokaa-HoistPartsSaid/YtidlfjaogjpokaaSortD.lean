/- The walks of slices' sort at []uint32, fourth part: the pivot, the random numbers, the broken patterns. -/
import Derived.Test.YtidlfjaogjpokaaSortA
namespace Go.Proofs.Ytidlfjaogjpokaa
open Go.RowKit

/-- the block of a counter -/
def Cnt (w : World) (s : Nat) (k : Int) : Prop := Blk w s 3 #[.int .i64 k]
theorem Cnt.cell {w : World} {s : Nat} {k : Int} (h : Cnt w s k) : w.cell? ⟨s, 0, none⟩ = some (.int .i64 k) := Blk.cellv h 0 rfl
theorem Cnt.frozen {w : World} {s : Nat} {k : Int} (h : Cnt w s k) : w.frozen? ⟨s, 0, none⟩ = false := Blk.frozen h 0
theorem Cnt.set1 {w : World} {s : Nat} {k : Int} (h : Cnt w s k) (j : Int) : Cnt (w.setCell ⟨s, 0, none⟩ (.int .i64 j)) s j := Blk.set_ h 0 (.int .i64 j)
theorem SB.cnt {rest : List Value} {w : World} {b s : Nat} {d : Array Int} {k : Int} (h : SB rest w b d) (hc : Cnt w s k) : b ≠ s := Blk.ne_ h hc (by decide)
theorem SB.far {rest : List Value} {w : World} {b s : Nat} {d : Array Int} (h : SB rest w b d) (hne : b ≠ s) (i : Nat) (u : Value) : SB rest (w.setCell ⟨s, i, none⟩ u) b d := Blk.far (p := ⟨s, i, none⟩) h hne u

theorem order2_any (rest : List Value) (b n cap s : Nat) (d : Array Int) (x y k : Nat) (w : World) (h : SB rest w b d) (hc : Cnt w s k) (hn : d.size = n) (hx : x < n) (hy : y < n) (hs : n ≤ 100000) (hk : k ≤ 100000) :
    Calls Try.prog 103 #[.slice (some ⟨b, 0, none⟩) n cap, .int .i64 x, .int .i64 y, .pointer (some ⟨s, 0, none⟩)] w
      fun r w' => r = .returned (.tuple #[.int .i64 (Sort.order2 lt32 d x y k).1, .int .i64 (Sort.order2 lt32 d x y k).2.1]) ∧ SB rest w' b d ∧ Cnt w' s (Sort.order2 lt32 d x y k).2.2 ∧ w.grownBy w' (some s) := by
  have hsx := h.cell (i := x) (by omega)
  have hsy := h.cell (i := y) (by omega)
  have hcc := hc.cell
  have hcf := hc.frozen
  have hne := h.cnt hc
  have H := Lib.hid h
  have HC := Lib.hid hc
  clear h hc hn
  by_cases hl : lt32 d[y]! d[x]! = true
  · have HR := Lib.hid (show Sort.order2 lt32 d x y k = (y, x, k + 1) by simp [Sort.order2, hl])
    go_enter Try.func103, Try.ntmps103
    go_wp2
    go_quiet ((go_at_call 94; exact quiet_at (less_any _ _ _) ⟨_, rfl⟩))
    rw [hl]
    go_wp2
    go_ret2
    exact ⟨ret_ii (by rw [HR.out]) (by rw [HR.out]), SB.far (H.out.drewN _) hne 0 _, by rw [HR.out]; exact Cnt.set1 (w := w.drewN _) HC.out _, grown_set (grown_drewN (grown_refl _ _) _) _ _⟩
  · replace hl : lt32 d[y]! d[x]! = false := by simpa using hl
    have HR := Lib.hid (show Sort.order2 lt32 d x y k = (x, y, k) by simp [Sort.order2, hl])
    go_enter Try.func103, Try.ntmps103
    go_wp2
    go_quiet ((go_at_call 94; exact quiet_at (less_any _ _ _) ⟨_, rfl⟩))
    rw [hl]
    go_wp2
    go_ret2
    exact ⟨ret_ii (by rw [HR.out]) (by rw [HR.out]), H.out.drewN _, by rw [HR.out]; exact HC.out, grown_drewN (grown_refl _ _) _⟩

theorem order2_lt (d : Array Int) (x y k n : Nat) (hx : x < n) (hy : y < n) : (Sort.order2 lt32 d x y k).1 < n ∧ (Sort.order2 lt32 d x y k).2.1 < n ∧ (Sort.order2 lt32 d x y k).2.2 ≤ k + 1 := by
  unfold Sort.order2
  split <;> exact ⟨by assumption, by assumption, by simp⟩

theorem order2_le (d : Array Int) (x y k : Nat) : (Sort.order2 lt32 d x y k).2.2 ≤ k + 1 := by
  unfold Sort.order2
  split <;> simp
theorem median_le (d : Array Int) (x y z k : Nat) : (Sort.median lt32 d x y z k).2 ≤ k + 3 := by
  have h1 := order2_le d x y k
  have h2 := order2_le d (Sort.order2 lt32 d x y k).2.1 z (Sort.order2 lt32 d x y k).2.2
  have h3 := order2_le d (Sort.order2 lt32 d x y k).1 (Sort.order2 lt32 d (Sort.order2 lt32 d x y k).2.1 z (Sort.order2 lt32 d x y k).2.2).1 (Sort.order2 lt32 d (Sort.order2 lt32 d x y k).2.1 z (Sort.order2 lt32 d x y k).2.2).2.2
  show (Sort.order2 lt32 d (Sort.order2 lt32 d x y k).1 (Sort.order2 lt32 d (Sort.order2 lt32 d x y k).2.1 z (Sort.order2 lt32 d x y k).2.2).1 (Sort.order2 lt32 d (Sort.order2 lt32 d x y k).2.1 z (Sort.order2 lt32 d x y k).2.2).2.2).2.2 ≤ _
  omega

set_option maxRecDepth 100000 in
theorem median_any (rest : List Value) (b n cap s : Nat) (d : Array Int) (x y z k : Nat) (w : World) (h : SB rest w b d) (hc : Cnt w s k) (hn : d.size = n) (hx : x < n) (hy : y < n) (hz : z < n) (hs : n ≤ 100000) (hk : k ≤ 1000) :
    Calls Try.prog 100 #[.slice (some ⟨b, 0, none⟩) n cap, .int .i64 x, .int .i64 y, .int .i64 z, .pointer (some ⟨s, 0, none⟩)] w
      fun r w' => r = .returned (.int .i64 (Sort.median lt32 d x y z k).1) ∧ SB rest w' b d ∧ Cnt w' s (Sort.median lt32 d x y z k).2 ∧ w.grownBy w' (some s) := by
  have HR := Lib.hid (show Sort.median lt32 d x y z k = ((Sort.order2 lt32 d (Sort.order2 lt32 d x y k).1 (Sort.order2 lt32 d (Sort.order2 lt32 d x y k).2.1 z (Sort.order2 lt32 d x y k).2.2).1 (Sort.order2 lt32 d (Sort.order2 lt32 d x y k).2.1 z (Sort.order2 lt32 d x y k).2.2).2.2).2.1,
    (Sort.order2 lt32 d (Sort.order2 lt32 d x y k).1 (Sort.order2 lt32 d (Sort.order2 lt32 d x y k).2.1 z (Sort.order2 lt32 d x y k).2.2).1 (Sort.order2 lt32 d (Sort.order2 lt32 d x y k).2.1 z (Sort.order2 lt32 d x y k).2.2).2.2).2.2) from rfl)
  have c1 := Lib.hid (order2_any rest b n cap s d x y k w h hc hn hx hy hs (by omega))
  obtain ⟨l1, l2, l3⟩ := order2_lt d x y k n hx hy
  have HN := Lib.hid hn
  clear h hc hn
  generalize Sort.order2 lt32 d x y k = r1 at HR c1 l1 l2 l3
  go_enter Try.func100, Try.ntmps100
  go_wp2_with fail
  refine c1.out.mono ?_
  rintro e w1 ⟨rfl, hS, hC, hG⟩
  have c2 := Lib.hid (order2_any rest b n cap s d r1.2.1 z r1.2.2 w1 hS hC HN.out l2 hz hs (by omega))
  obtain ⟨m1, m2, m3⟩ := order2_lt d r1.2.1 z r1.2.2 n l2 hz
  clear hS hC c1
  generalize Sort.order2 lt32 d r1.2.1 z r1.2.2 = r2 at HR c2 m1 m2 m3
  go_wp2_with fail
  refine c2.out.mono ?_
  rintro e w2 ⟨rfl, hS, hC, hG2⟩
  have c3 := Lib.hid (order2_any rest b n cap s d r1.1 r2.1 r2.2.2 w2 hS hC HN.out l1 m1 hs (by omega))
  clear hS hC c2
  generalize Sort.order2 lt32 d r1.1 r2.1 r2.2.2 = r3 at HR c3
  go_wp2_with fail
  refine c3.out.mono ?_
  rintro e w3 ⟨rfl, hS, hC, hG3⟩
  go_wp2
  go_ret
  exact ⟨ret_int (by rw [HR.out]), hS, by rw [HR.out]; exact hC, grown_trans (grown_trans hG hG2) hG3⟩

/-- a hint as the program writes it -/
def hintN : Sort.Hint → Int
  | .unknown => 0
  | .increasing => 1
  | .decreasing => 2

set_option maxRecDepth 100000 in
theorem choose_any (rest : List Value) (b n cap : Nat) (d : Array Int) (a e : Nat) (w : World) (h : SB rest w b d) (hn : d.size = n) (ha : a < e) (he : e ≤ n) (hs : n ≤ 24) :
    Calls Try.prog 91 #[.slice (some ⟨b, 0, none⟩) n cap, .int .i64 a, .int .i64 e] w
      fun r w' => r = .returned (.tuple #[.int .i64 (Sort.choosePivot lt32 d a e).1, .int .i64 (hintN (Sort.choosePivot lt32 d a e).2)]) ∧ SB rest w' b d ∧ Below w.heap.size w w' := by
  obtain ⟨l, hl⟩ : ∃ l : Nat, e = a + l := ⟨e - a, by omega⟩
  have hl' : (e : Int) - (a : Int) = l := by omega
  have l24 : l ≤ 24 := by omega
  have hal : a + l ≤ n := by omega
  have l1 : 1 ≤ l := by omega
  obtain ⟨q, hq⟩ : ∃ q : Nat, q = l / 4 := ⟨_, rfl⟩
  have hq' : (l : Int) / 4 = q := by omega
  have q1 : 4 * q ≤ l := by omega
  have HR' : Sort.choosePivot lt32 d a e = (let r : Nat × Nat := if 8 ≤ l then Sort.median lt32 d (a + q * 1) (a + q * 2) (a + q * 3) 0 else (a + q * 2, 0); (r.1, if r.2 = 0 then Sort.Hint.increasing else if r.2 = 12 then .decreasing else .unknown)) := by
    unfold Sort.choosePivot
    simp only [show e - a = l from by omega, ← hq, ge_iff_le, if_neg (show ¬ 50 ≤ l by omega)]
  clear hl hq
  have H := Lib.hid h
  have HN := Lib.hid hn
  clear h hn
  by_cases h8 : 8 ≤ l
  · rw [if_pos h8] at HR'
    have hcn : Cnt (w.alloc (.cells #[.int .i64 0] 3)) w.heap.size 0 := Blk.new w 3 #[.int .i64 0]
    have hbn : SB rest (w.alloc (.cells #[.int .i64 0] 3)) b d := Blk.alloc H.out _
    have cm' := median_any rest b n cap w.heap.size d (a + q * 1) (a + q * 2) (a + q * 3) 0 _ hbn hcn HN.out (by omega) (by omega) (by omega) (by omega) (by omega)
    have hm := median_le d (a + q * 1) (a + q * 2) (a + q * 3) 0
    generalize Sort.median lt32 d (a + q * 1) (a + q * 2) (a + q * 3) 0 = r at HR' cm' hm
    simp only [Int.natCast_add, Int.natCast_mul, Int.cast_ofNat_Int, Int.mul_one, Int.natCast_one] at cm'
    have cm := Lib.hid cm'
    clear cm'
    obtain ⟨r1, r2⟩ := r
    simp only at HR' hm
    have HR := Lib.hid HR'
    clear HR' hcn hbn
    go_enter Try.func91, Try.ntmps91
    go_wp2_with fail
    refine cm.out.mono ?_
    rintro e w1 ⟨rfl, hS, hC, hG⟩
    have hc1 := hC.cell
    have HS := Lib.hid hS
    have HB : Hid (Below w.heap.size w w1) := Lib.hid (Below.grown ((Below.refl _ _).alloc (Nat.le_refl _) _) hG ((Below.refl _ w).alloc (Nat.le_refl _) _).size (by rintro k hk; injection hk with hk; omega))
    clear cm hS hC hG
    by_cases h0 : r2 = 0
    · subst h0
      go_wp2
      go_ret2
      refine ⟨?_, HS.out, HB.out⟩
      rw [HR.out]
      exact ret_ii rfl rfl
    · have h12 : r2 ≠ 12 := by omega
      go_wp2
      go_ret2
      refine ⟨?_, HS.out, HB.out⟩
      rw [HR.out]
      simp only [if_neg h0, if_neg h12]
      exact ret_ii rfl rfl
  · rw [if_neg h8] at HR'
    have HR := Lib.hid HR'
    clear HR'
    go_enter Try.func91, Try.ntmps91
    go_wp2
    go_ret2
    refine ⟨?_, ?_, ?_⟩
    · rw [HR.out]
      exact ret_ii rfl rfl
    · exact Blk.alloc H.out _
    · exact (Below.refl _ _).alloc (Nat.le_refl _) _
end Go.Proofs.Ytidlfjaogjpokaa
