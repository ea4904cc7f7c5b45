/- The references' default parameters: the chain's search, and Default at (8, 17, 1, 1). -/
import Derived.Test.YtidlfjaogjpokaaGraF
import Derived.StillTailTactics
import Derived.Laws.CopyOwn
import Derived.Laws.ResultCell
namespace Go.Proofs.Ytidlfjaogjpokaa
open Go.RowKit

theorem dimension3_any (n : Int) (w : World) :
    Calls Try.prog 35 #[.int .i64 n] w fun e w' => e = .returned (.bool (M.dimB n)) ∧ w = w' := by
  unfold M.dimB
  cases h1 : (n == 4) <;> cases h2 : (n == 8) <;> cases h3 : (n == 16) <;> cases h4 : (n == 32)
  all_goals
    go_enter Try.func35, Try.ntmps35
    go_wp2
    go_ret
    exact ⟨rfl, rfl⟩
/-- the chain's search: from k downwards -/
def chGo (st cnt : Int) : Nat → List Int → List Int
  | 0, acc => acc
  | k + 1, acc => if 1073741824 < ((k + 1 : Nat) : Int) * st + 1 ∧ (acc.length : Int) < cnt then chGo st cnt k (if M.primeR (((k + 1 : Nat) : Int) * st + 1) = true then acc ++ [((k + 1 : Nat) : Int) * st + 1] else acc) else acc
theorem chGo_stop {st cnt : Int} {k : Nat} {acc : List Int} (h : ¬ (1073741824 < (k : Int) * st + 1 ∧ (acc.length : Int) < cnt)) : chGo st cnt k acc = acc := by
  cases k with
  | zero => rfl
  | succ k => rw [chGo, if_neg h]
theorem chGo_step {st cnt : Int} {k : Nat} {acc : List Int} (h : 1073741824 < ((k + 1 : Nat) : Int) * st + 1 ∧ (acc.length : Int) < cnt) : chGo st cnt (k + 1) acc = chGo st cnt k (if M.primeR (((k + 1 : Nat) : Int) * st + 1) = true then acc ++ [((k + 1 : Nat) : Int) * st + 1] else acc) := by
  rw [chGo, if_pos h]
theorem chGo_at {st cnt : Int} {k : Nat} {acc : List Int} (h1 : 1 ≤ k) (h : 1073741824 < (k : Int) * st + 1 ∧ (acc.length : Int) < cnt) : chGo st cnt k acc = chGo st cnt (k - 1) (if M.primeR ((k : Int) * st + 1) = true then acc ++ [(k : Int) * st + 1] else acc) := by
  obtain ⟨j, rfl⟩ : ∃ j, k = j + 1 := ⟨k - 1, by omega⟩
  rw [chGo_step h]; rfl
set_option maxRecDepth 100000 in
set_option maxHeartbeats 2000000 in
theorem chain_any (N t cnt : Int) (w : World) (hN : M.dimB N = true) (ht : 3 ≤ t) (ht2 : t % 2 = 1) (ht1 : t ≤ 2147483647) (hc : 1 ≤ cnt) (hc1 : cnt ≤ 25) (R : List Int)
    (hR : chGo (2 * N * t) cnt (2147483646 / (2 * N * t)).toNat [] = R) (hlen : (R.length : Int) = cnt) :
    Calls Try.prog 22 #[.int .i64 N, .int .u32 t, .int .i64 cnt] w
      fun e w' => ∃ v, e = .returned (.tuple #[v, .int .i64 0]) ∧ w'.ownsRow w.heap.size 22 1 v R.length (ints .u32 R) ∧ Below w.heap.size w w' := by
  obtain ⟨i0, hi0, hz0, hz1, hz2⟩ := info_parts info_u32
  have hN1 := M.dimB_le N hN
  have hNt : 24 ≤ 2 * N * t ∧ 2 * N * t ≤ 137438953408 := by
    rcases hN1 with rfl | rfl | rfl | rfl <;> omega
  have hNt3 : (8 * t ≤ 2 * N * t) := by rcases hN1 with rfl | rfl | rfl | rfl <;> omega
  have hq0 : 0 ≤ 2147483646 / (2 * N * t) := Int.ediv_nonneg (by omega) (by omega)
  have hq1 : 2147483646 / (2 * N * t) * (2 * N * t) ≤ 2147483646 := Int.ediv_mul_le _ (by omega)
  have hq2 : 2147483646 / (2 * N * t) ≤ 2147483646 := Int.ediv_le_self _ (by omega)
  have hNb : 0 ≤ N ∧ N ≤ 32 := by omega
  have z1 : decide (t < 3) = false := decide_eq_false (by omega)
  have z2 : (t % 2 == 0) = false := by simp; omega
  have z3 : decide ((2147483647 : Int) < t) = false := decide_eq_false (by omega)
  have z4 : decide (cnt < 1) = false := decide_eq_false (by omega)
  have z5 : decide ((25 : Int) < cnt) = false := decide_eq_false (by omega)
  have HD := Lib.hid (fun w => hN ▸ dimension3_any N w)
  have HL := Lib.hid hlen
  have HR := Lib.hid hR
  clear hN1 hN hlen hR ht2
  go_enter Try.func22, Try.ntmps22
  go_wp2_with fail
  refine (HD.out _).mono ?_
  rintro e w' ⟨rfl, rfl⟩
  go_upto_region 4 with fail
  generalize 2 * N * t = st at *
  clear z1 z2 z3 z4 z5 HD
  obtain ⟨K, hK⟩ : ∃ K : Nat, 2147483646 / st = K := ⟨(2147483646 / st).toNat, by omega⟩
  rw [hK] at HR hq0 hq1 hq2
  rw [Int.toNat_natCast] at HR
  have HB := Lib.hid hNt3
  clear hNt3
  go_wp2
  go_loopw [9, 10] (fun v x wr => ∃ (k : Nat) (acc : List Int), x = .int .u64 k ∧ wr.ownsRow w.heap.size 22 1 v acc.length (ints .u32 acc) ∧ (acc.length : Int) ≤ cnt ∧ Below w.heap.size w wr ∧ (k : Int) * st ≤ 2147483646 ∧ Hid (chGo st cnt k acc = R)) (fun _ x _ => (intOf x).toNat)
  case atStart => exact ⟨K, [], by rw [hK], ⟨by simp [ints], .inl ⟨rfl, rfl⟩⟩, by simp; omega, Below.refl _ _, hq1, HR⟩
  case round =>
    clear HR hK hq0 hq1 hq2
    obtain ⟨k, acc, rfl, hown, hal, hB, hkst, HG⟩ := hrel
    have hk0 : (0 : Int) ≤ (k : Int) * st := Int.mul_nonneg (by omega) (by omega)
    have hkb : (k : Int) ≤ 2147483646 := by
      have : (k : Int) * 1 ≤ (k : Int) * st := Int.mul_le_mul_of_nonneg_left (by omega) (by omega)
      omega
    have hal2 : ∃ A c, u9 = .slice A acc.length c ∧ acc.length ≤ c := by
      obtain ⟨A, c, e1, _, e2⟩ := own_rd hown
      exact ⟨A, c, e1, e2⟩
    by_cases hgo : 1073741824 < (k : Int) * st + 1 ∧ (acc.length : Int) < cnt
    · have hk1 : 1 ≤ k := by
        rcases Nat.eq_zero_or_pos k with h | h
        · subst h; simp at hgo
        · exact h
      have HG2 : Hid (chGo st cnt (k - 1) (if M.primeR ((k : Int) * st + 1) = true then acc ++ [(k : Int) * st + 1] else acc) = R) := Lib.hid (by rw [← chGo_at hk1 hgo]; exact HG.out)
      have hks2 : Hid (((k - 1 : Nat) : Int) * st ≤ 2147483646) := Lib.hid (by
        rw [show ((k - 1 : Nat) : Int) = (k : Int) - 1 by omega, Int.sub_mul]; omega)
      obtain ⟨A, c, rfl, hac⟩ := hal2
      have g1 : decide ((1073741824 : Int) < (k : Int) * st + 1) = true := decide_eq_true hgo.1
      have g2 : decide ((acc.length : Int) < cnt) = true := decide_eq_true hgo.2
      have g3 := hgo.2
      have HP := Lib.hid (fun w => rprime_any ((k : Int) * st + 1) w (by omega) (by omega))
      clear hgo HG
      go_wp2_with fail
      refine (HP.out _).mono ?_
      rintro e w' ⟨rfl, rfl⟩
      cases hpr : M.primeR ((k : Int) * st + 1) with
      | false =>
        rw [hpr] at HG2
        clear hpr
        go_wp2
        exact ⟨⟨k - 1, acc, by go_num, hown, hal, hB, hks2.out, HG2⟩, by simp [intOf]; omega⟩
      | true =>
        rw [hpr, if_pos rfl] at HG2
        clear hpr
        go_wp2_with (at_builtin; refine wpList_append_one _ _ _ rfl (.tmp 62) (.tmp 68) _ rfl w.heap.size 22 i0 _ 4 Try.underlying23 hi0 hz0 hz1 hz2 rfl rfl _ _ _ hown rfl _ rfl (by simp) (by unfold maxLen; omega) (by omega) hB.size ?_; intro v1 w1 hown1 hg1)
        have e1 := ints_snoc .u32 acc ((k : Int) * st + 1)
        exact ⟨⟨k - 1, acc ++ [(k : Int) * st + 1], by go_num, by rw [e1, List.length_append]; exact hown1, by simp; omega, (hB.alloc hB.size _).grown hg1 (Nat.le_trans hB.size (by simp)) (fun q hq => (hown.lt q hq).1), hks2.out, HG2⟩, by simp [intOf]; omega⟩
    · have hr : Hid (acc = R) := Lib.hid (by rw [← chGo_stop hgo]; exact HG.out)
      have hlen : (acc.length : Int) = cnt := by rw [hr.out]; exact HL.out
      obtain ⟨A, c, rfl, hac⟩ := hal2
      have g2 : decide ((acc.length : Int) < cnt) = false := decide_eq_false (by omega)
      have g3 : ¬ (acc.length : Int) < cnt := by omega
      clear hgo HG
      go_wp2
      all_goals
        go_ret2
        obtain rfl := hr.out
        exact ⟨_, rfl, hown, hB⟩
theorem ch_def : chGo 272 2 7895160 [] = [2147483249, 2147477809] := by decide +kernel
set_option maxRecDepth 100000 in
set_option maxHeartbeats 2000000 in
theorem default_shown (w : World) :
    Calls Try.prog 8 #[.int .i64 8, .int .u32 17, .int .i64 1, .int .i64 1] w
      fun e w' => ∃ A c, e = .returned (.tuple #[.agg #[.int .i64 8, .int .u32 17, .int .i64 1, .slice A 1 c, .int .u32 2147483249, .int .i64 4, .int .u32 2], .int .i64 0]) ∧ Rd w' A (ints .u32 [2147477809]) ∧ 1 ≤ c ∧ Below w.heap.size w w' := by
  have h1 := Lib.hid (fun w => rplain_any 8 17 1 w (by omega) (by omega) (by omega) (by omega) (by omega) (by omega))
  have hp : M.plainOf M.primeR 8 17 1 = 17 := by decide +kernel
  rw [hp] at h1
  have hd : M.dimB 8 = true := rfl
  have h0 := Lib.hid (fun w => rdim_any 8 w)
  rw [hd] at h0
  have h2 := Lib.hid (fun w => chain_any 8 17 2 w rfl (by omega) (by omega) (by omega) (by omega) (by omega) [2147483249, 2147477809] ch_def rfl)
  clear hp hd
  go_enter Try.func8, Try.ntmps8
  go_wp2_with (first
    | (go_at_call 20; refine (h0.out _).mono ?_; rintro e w' ⟨rfl, rfl⟩)
    | (go_at_call 21; refine (h1.out _).mono ?_; rintro e w' ⟨rfl, rfl⟩)
    | fail)
  refine (h2.out _).mono ?_
  rintro e w1 ⟨v, rfl, hown, hb⟩
  have KB0 : Blk (w.alloc (.cells #[.int .i64 0, .int .u32 0, .int .i64 0, .slice none 0 0, .int .u32 0, .int .i64 0, .int .u32 0] 25)) w.heap.size 25 #[.int .i64 0, .int .u32 0, .int .i64 0, .slice none 0 0, .int .u32 0, .int .i64 0, .int .u32 0] := Blk.new _ _ _
  have KB := KB0.keep hb
  obtain ⟨g, cap, rfl, hg1, hg2⟩ := hown.form (by decide)
  have hc2 : 2 ≤ cap := by
    obtain ⟨A, c, e1, _, e2⟩ := own_rd hown
    injection e1 with _ _ e3
    subst e3
    exact e2
  have c0 := hown.cells (g := g) rfl 0 (.int .u32 2147483249) rfl
  have c1 := hown.cells (g := g) rfl 1 (.int .u32 2147477809) rfl
  have hlt := hown.lt g rfl
  have ha0 : (⟨g, 0, none⟩ : Addr).add 0 = ⟨g, 0, none⟩ := rfl
  rw [ha0] at c0
  have hc1 : (cap = 1) = False := by simp; omega
  go_wp2
  go_still_tail 9, (by kernel_rfl)
  refine wpList_store_row rfl _ _ _ rfl w.heap.size #[.int .i64 8, .int .u32 17, .int .i64 1, .slice (some ⟨g, 1, none⟩) 1 (cap - 1), .int .u32 2147483249, .int .i64 4, .int .u32 2] rfl rfl 25 _ (KB.drewN 1) (by kernel_rfl) rfl (by simp [Value.oneCell']) ?_
  have KC : Blk (w1.drew.setRow w.heap.size #[.int .i64 8, .int .u32 17, .int .i64 1, .slice (some ⟨g, 1, none⟩) 1 (cap - 1), .int .u32 2147483249, .int .i64 4, .int .u32 2]) w.heap.size 25 #[.int .i64 8, .int .u32 17, .int .i64 1, .slice (some ⟨g, 1, none⟩) 1 (cap - 1), .int .u32 2147483249, .int .i64 4, .int .u32 2] := setRow_heap w1.drew w.heap.size _ _ _ _ (KB.drewN 1)
  have hgw : g ≠ w.heap.size := by have := hlt.1; simp at this; omega
  have hBS : Below w.heap.size w (w1.drew.setRow w.heap.size #[.int .i64 8, .int .u32 17, .int .i64 1, .slice (some ⟨g, 1, none⟩) 1 (cap - 1), .int .u32 2147483249, .int .i64 4, .int .u32 2]) :=
    below_setRow (bl_drewN (bl_then ((Below.refl _ _).alloc (Nat.le_refl _) _) hb (by simp)) 1) (Nat.le_refl _) _
  have hrd : Rd (w1.drew.setRow w.heap.size #[.int .i64 8, .int .u32 17, .int .i64 1, .slice (some ⟨g, 1, none⟩) 1 (cap - 1), .int .u32 2147483249, .int .i64 4, .int .u32 2]) (some ⟨g, 1, none⟩) (ints .u32 [2147477809]) := fun m u hu => by
    rcases m with _ | m
    · refine ⟨_, rfl, ?_⟩
      have h3 : u = .int .u32 2147477809 := by simp [ints] at hu; exact hu.symm
      subst h3
      exact (World.cell?_of_block (setRow_other w1.drew w.heap.size g _ hgw)).trans c1
    · simp [ints] at hu
  have k0 := KC.cellv 0 rfl
  have k1 := KC.cellv 1 rfl
  have k2 := KC.cellv 2 rfl
  have k3 := KC.cellv 3 rfl
  have k4 := KC.cellv 4 rfl
  have k5 := KC.cellv 5 rfl
  have k6 := KC.cellv 6 rfl
  show wpList _ _ _ _ _ (w1.drew.setRow w.heap.size _)
  generalize w1.drew.setRow w.heap.size #[.int .i64 8, .int .u32 17, .int .i64 1, .slice (some ⟨g, 1, none⟩) 1 (cap - 1), .int .u32 2147483249, .int .i64 4, .int .u32 2] = W at *
  go_wp2
  refine bodyPost_ret (v := .tuple #[.agg #[.int .i64 8, .int .u32 17, .int .i64 1, .slice (some ⟨g, 1, none⟩) 1 (cap - 1), .int .u32 2147483249, .int .i64 4, .int .u32 2], .int .i64 0]) ?_ rfl ⟨_, _, rfl, hrd, by omega, hBS⟩
  rw [results_cell_tmp rfl]
  go_simp
end Go.Proofs.Ytidlfjaogjpokaa
