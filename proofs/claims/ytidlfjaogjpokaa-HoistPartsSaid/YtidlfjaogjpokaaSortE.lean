/- The walks of slices' sort at []uint32, fifth part: the short insertion sort, the bit length, the random numbers, the broken patterns. -/
import Derived.Test.YtidlfjaogjpokaaSortD
import Derived.Deep.DeepCutAuto
import Derived.Deep.LoopGhost
import Derived.Deep.CutBlock
import Derived.Sort.LotD5
import Derived.Laws.Bits64
import Derived.Laws.Bits64b
import Derived.Lib.BitFns
import Derived.Sort.Row
namespace Go.Proofs.Ytidlfjaogjpokaa
open Go.RowKit

theorem partialIns_short (d : Array Int) (a e : Nat) (h : e - a < 50) : Sort.partialInsertionSort lt32 d a e = (d, decide (Sort.scanSorted lt32 d e (a + 1) = e)) := by
  unfold Sort.partialInsertionSort
  rw [Sort.partialIns]
  by_cases hi : Sort.scanSorted lt32 d e (a + 1) = e
  · simp [hi]
  · simp [hi, h]

set_option maxRecDepth 100000 in
theorem partialIns_any (rest : List Value) (b n cap : Nat) (d : Array Int) (a e : Nat) (w : World) (h : SB rest w b d) (hn : d.size = n) (ha : a < e) (he : e ≤ n) (hs : n ≤ 24) :
    Calls Try.prog 93 #[.slice (some ⟨b, 0, none⟩) n cap, .int .i64 a, .int .i64 e] w
      fun r w' => r = .returned (.bool (Sort.partialInsertionSort lt32 d a e).2) ∧ SB rest w' b d ∧ w.grownBy w' (some b) := by
  have HR := Lib.hid (partialIns_short d a e (by omega))
  have hS := h
  have hG := grown_refl w (some b)
  have HN := Lib.hid hn
  clear h hn
  go_enter Try.func93, Try.ntmps93
  go_wp2
  go_loopw [7, 8] (fun x y wr => x = .int .i64 (a + 1 : Nat) ∧ y = .int .i64 0 ∧ SB rest wr b d ∧ w.grownBy wr (some b)) (fun x _ _ => 0)
  case atStart => exact ⟨by go_num, rfl, hS, hG⟩
  case round =>
    clear hS hG
    obtain ⟨rfl, rfl, hS, hG⟩ := hrel
    go_upto_block 2 with fail
    go_cut [7] (fun x wr => ∃ i : Nat, x = .int .i64 i ∧ a + 1 ≤ i ∧ i ≤ e ∧ SB rest wr b d ∧ w.grownBy wr (some b) ∧ Hid (i = Sort.scanSorted lt32 d e (a + 1)))
    case first =>
      go_wp2
      go_loopw [7] (fun x wr => ∃ i : Nat, x = .int .i64 i ∧ a + 1 ≤ i ∧ i ≤ e ∧ SB rest wr b d ∧ w.grownBy wr (some b) ∧ Hid (Sort.scanSorted lt32 d e i = Sort.scanSorted lt32 d e (a + 1))) (fun x _ => e + 3 - (intOf x).toNat)
      case atStart => exact ⟨a + 1, by first | rfl | go_num, by omega, by omega, by first | exact hS | exact SB.drewN hS _, by first | exact hG | exact grown_drewN hG _, Lib.hid rfl⟩
      case round =>
        obtain ⟨i, rfl, u1, u2, hS, hG, U3⟩ := hrel
        by_cases hi : i < e
        · obtain ⟨m, hm⟩ : ∃ m : Nat, i = m + 1 := ⟨i - 1, by omega⟩
          subst hm
          have ci := hS.cell (i := m + 1) (by have := HN.out; omega)
          have cm := hS.cell (i := m) (by have := HN.out; omega)
          have hd : decide ((m : Int) + 1 < (e : Int)) = true := decide_eq_true (by omega)
          by_cases hp : lt32 d[m + 1]! d[m]! = false
          · have U4 : Hid (Sort.scanSorted lt32 d e (m + 2) = Sort.scanSorted lt32 d e (a + 1)) := Lib.hid (by
              rw [← U3.out]; conv => rhs; rw [Sort.scanSorted]
              simp [hi, hp])
            clear U3
            go_wp2
            go_quiet ((go_at_call 94; exact quiet_at (less_any _ _ _) ⟨_, rfl⟩))
            rw [hp]
            go_wp2
            exact ⟨⟨m + 2, by go_num, by omega, by omega, hS.drewN _, grown_drewN hG _, U4⟩, by simp [intOf] <;> omega⟩
          · replace hp : lt32 d[m + 1]! d[m]! = true := by simpa using hp
            have U4 : Hid (m + 1 = Sort.scanSorted lt32 d e (a + 1)) := Lib.hid (by rw [← U3.out, Sort.scanSorted]; simp [hp])
            clear U3
            go_wp2
            go_quiet ((go_at_call 94; exact quiet_at (less_any _ _ _) ⟨_, rfl⟩))
            rw [hp]
            go_wp2
            go_meet
            case rel => exact ⟨m + 1, by go_num, by omega, by omega, hS.drewN _, grown_drewN hG _, U4⟩
        · have hd : decide ((i : Int) < (e : Int)) = false := decide_eq_false (by omega)
          have U4 : Hid (i = Sort.scanSorted lt32 d e (a + 1)) := Lib.hid (by rw [← U3.out, Sort.scanSorted]; simp [hi])
          clear U3
          go_wp2
          go_quiet (fail)
          go_wp2
          go_meet
          case rel => exact ⟨i, rfl, by omega, by omega, hS.drewN _, grown_drewN hG _, U4⟩
    case rest =>
      clear hS hG
      obtain ⟨i, rfl, x1, x2, hS, hG, X3⟩ := hcut
      by_cases hie : i = e
      · have HF : Hid ((Sort.partialInsertionSort lt32 d a e).2 = true) := Lib.hid (by rw [HR.out, ← X3.out]; simp [hie])
        clear HR X3
        subst hie
        go_wp2
        go_ret
        exact ⟨ret_bool (by rw [HF.out]), hS, hG⟩
      · have HF : Hid ((Sort.partialInsertionSort lt32 d a e).2 = false) := Lib.hid (by rw [HR.out, ← X3.out]; simp [hie])
        clear HR X3
        go_wp2
        go_ret
        exact ⟨ret_bool (by rw [HF.out]), hS, hG⟩

theorem len8_bits : ∀ n : Fin 256, Lib.len8 (n.val : Int) = (Sort.bitsLen n.val : Int) := by decide +kernel

set_option maxRecDepth 1000000 in
theorem fold_len (a b c d : List UInt8) (h : (a.append b).append (c.append d) = Lib.len8tab.data.toList) : (⟨((a.append b).append (c.append d)).toArray⟩ : ByteArray) = Lib.len8tab := by
  rw [h]

set_option maxRecDepth 100000 in
theorem len64_int (x : Int) (w : World) (h0 : 0 ≤ x) (h1 : x ≤ 200) :
    Calls Try.prog 60 #[.int .u64 x] w fun e w' => e = .returned (.int .i64 (Lib.len8 x)) ∧ w = w' := by
  have hd1 : decide ((4294967296 : Int) ≤ x) = false := decide_eq_false (by omega)
  have hd2 : decide ((65536 : Int) ≤ x) = false := decide_eq_false (by omega)
  have hd3 : decide ((256 : Int) ≤ x) = false := decide_eq_false (by omega)
  go_enter Try.func60, Try.ntmps60
  rw [fold_len _ _ _ _ (by rfl)]
  go_upto_region 1 with fail
  go_upto_region 4 with fail
  go_upto_region 7 with fail
  go_upto_region 10 with fail
  have h256 : x % 256 = x := by omega
  have b1 := Lib.len8_int x h0 (by omega)
  have b2 := Lib.bitLen_le8 ⟨x.toNat, by omega⟩
  clear hd1 hd2 hd3
  generalize hT : Lib.len8tab = T
  have hix : ∀ w : World, (Instr.index 9 (.string T) (.int .u8 x)).run Try.prog w = .ok (.int .u8 (Lib.len8 x)) w := fun w => by
    rw [← hT]; exact Lib.run_index_len8tab w _ _ _ rfl h0 (by omega)
  have HT := Lib.hid hT
  clear hT
  go_wp2
  go_ret
  refine ⟨ret_int ?_, rfl⟩
  obtain ⟨n, rfl⟩ : ∃ n : Nat, x = n := ⟨x.toNat, by omega⟩
  have h5 := len8_bits ⟨n, by omega⟩
  simp only at h5
  have h6 : Sort.bitsLen n ≤ 8 := (Sort.bitsLen_le_iff n 8).2 (by omega)
  rw [h5]
  unfold wrap64
  omega

set_option maxRecDepth 100000 in
theorem len_any (n : Nat) (w : World) (hn : n ≤ 200) :
    Calls Try.prog 42 #[.int .u64 n] w fun e w' => e = .returned (.int .i64 (Sort.bitsLen n : Nat)) ∧ w = w' := by
  go_enter Try.func42, Try.ntmps42
  go_wp2_with fail
  have q1 : (0:Int) ≤ n := by omega
  have q2 : (n:Int) ≤ 200 := by omega
  have q3 := len64_int n w q1 q2
  refine q3.mono ?_
  rintro e w1 ⟨rfl, rfl⟩
  have h5 := len8_bits ⟨n, by omega⟩
  simp only at h5
  rw [h5]
  go_wp2
  go_ret
  exact ⟨rfl, rfl⟩

/-- '2 ^ k' fits a uint64 for k up to 62 -/
theorem two_pow64 (k : Nat) (hk : k ≤ 62) : IntKind.u64.wrap ((2 : Int) ^ k) = ((1 <<< k : Nat) : Int) := by
  have h : (2 : Nat) ^ k ≤ 2 ^ 62 := Nat.pow_le_pow_right (by decide) hk
  rw [IntKind.wrap_u64, Nat.one_shiftLeft, show ((2 : Int) ^ k) = ((2 ^ k : Nat) : Int) by push_cast; rfl]
  generalize (2 : Nat) ^ k = p at h
  omega

theorem nextPower_any (n : Nat) (w : World) (hn : n ≤ 200) :
    Calls Try.prog 79 #[.int .i64 n] w fun e w' => e = .returned (.int .u64 ((1 <<< Sort.bitsLen n : Nat) : Int)) ∧ w = w' := by
  have hk : Sort.bitsLen n ≤ 62 := (Sort.bitsLen_le_iff n 62).2 (by omega)
  have hp := two_pow64 (Sort.bitsLen n) hk
  go_enter Try.func79, Try.ntmps79
  go_wp2_with fail
  refine (len_any n w hn).mono ?_
  rintro e w1 ⟨rfl, rfl⟩
  go_wp2
  go_ret
  exact ⟨rfl, rfl⟩

open Go.Sort in
theorem setCell2 (w : World) (blk off : Nat) (v v' : Value) : (w.setCell ⟨blk, off, none⟩ v).setCell ⟨blk, off, none⟩ v' = w.setCell ⟨blk, off, none⟩ v' := by
  rw [setCell_eq, setCell_eq, mapBlock_mapBlock, setCell_eq]
  congr 1
  funext c
  simp

set_option maxRecDepth 100000 in
theorem next_any (rb X : Nat) (hX : X < 18446744073709551616) (w : World) (h : Blk w rb 108 #[.int .u64 X]) :
    Calls Try.prog 80 #[.pointer (some ⟨rb, 0, none⟩)] w fun e w' => e = .returned (.int .u64 (Sort.xorNextN X : Nat)) ∧ w' = (w.setCell ⟨rb, 0, none⟩ (.int .u64 (Sort.xorNextN X : Nat))).drewN 3 := by
  obtain ⟨A, hA⟩ : ∃ A : Nat, A = X ^^^ (X * 8192 % 18446744073709551616) := ⟨_, rfl⟩
  obtain ⟨B, hB⟩ : ∃ B : Nat, B = A ^^^ (A / 128) := ⟨_, rfl⟩
  obtain ⟨C, hC⟩ : ∃ C : Nat, C = B ^^^ (B * 131072 % 18446744073709551616) := ⟨_, rfl⟩
  have lA : A < 18446744073709551616 := by rw [hA]; exact Nat.xor_lt_two_pow (n := 64) (by omega) (by omega)
  have lB : B < 18446744073709551616 := by rw [hB]; exact Nat.xor_lt_two_pow (n := 64) (by omega) (by omega)
  have e1 : bits .xor .u64 (X : Int) (IntKind.u64.wrap ((X : Int) * 8192)) = (A : Int) := by
    rw [IntKind.wrap_u64, show ((X : Int) * 8192 % 18446744073709551616) = ((X * 8192 % 18446744073709551616 : Nat) : Int) by omega, bits_xor_u64_nat _ _ hX (by omega), hA]
  have e2 : bits .xor .u64 (A : Int) ((A : Int) / 128) = (B : Int) := by
    rw [show ((A : Int) / 128) = ((A / 128 : Nat) : Int) by omega, bits_xor_u64_nat _ _ lA (by omega), hB]
  have e3 : bits .xor .u64 (B : Int) (IntKind.u64.wrap ((B : Int) * 131072)) = (C : Int) := by
    rw [IntKind.wrap_u64, show ((B : Int) * 131072 % 18446744073709551616) = ((B * 131072 % 18446744073709551616 : Nat) : Int) by omega, bits_xor_u64_nat _ _ lB (by omega), hC]
  have hv : Sort.xorNextN X = C := by unfold Sort.xorNextN; simp only []; rw [← hA, ← hB, ← hC]
  rw [hv]
  clear hA hB hC hv
  have hc : w.cell? ⟨rb, 0, none⟩ = some (.int .u64 X) := h.cellv 0 rfl
  have hf := h.frozen 0
  clear h
  have hss : ∀ v v', (w.setCell ⟨rb, 0, none⟩ v).setCell ⟨rb, 0, none⟩ v' = w.setCell ⟨rb, 0, none⟩ v' := setCell2 w rb 0
  go_enter Try.func80, Try.ntmps80
  go_wp2
  go_region
  all_goals go_wp2
  all_goals go_region
  all_goals go_wp2
  all_goals go_region
  all_goals go_wp2
  go_ret
  exact ⟨rfl, rfl⟩

theorem grown_far {w w' : World} {b s : Nat} (hg : w.grownBy w' (some b)) (hs : w.heap.size ≤ s) (i : Nat) (u : Value) : w.grownBy (w'.setCell ⟨s, i, none⟩ u) (some b) :=
  ⟨hg.os, hg.tape, hg.output, by simpa [World.setCell] using hg.size, fun k hk hne => (Below.heap_setCell w' ⟨s, i, none⟩ u k (show k ≠ s by omega)).trans (hg.block k hk hne)⟩

theorem grown_drew1 {w w' : World} {b : Nat} (hg : w.grownBy w' (some b)) : w.grownBy w'.drew (some b) := ⟨hg.os, hg.tape, hg.output, hg.size, hg.block⟩

/-- the rounds that are left: so many, t have been made -/
def bpRest (a L M i0 : Nat) : Nat → Nat → UInt64 × Array Int → Array Int
  | 0, _, st => st.2
  | k + 1, t, st => bpRest a L M i0 k (t + 1) (Sort.breakStep a L M st (i0 + t))
theorem bp_eq (d : Array Int) (a L : Nat) (h8 : 8 ≤ L) : Sort.breakPatterns d a (a + L) = bpRest a L (1 <<< Sort.bitsLen L) (a + L / 4 * 2 - 1) 3 0 (UInt64.ofNat L, d) := by
  unfold Sort.breakPatterns
  simp only [Nat.add_sub_cancel_left]
  rw [if_pos h8]
  rfl
theorem bp_step (a L M i0 t : Nat) (r : UInt64) (d : Array Int) (o : Nat) (ht : t < 3) (ho : (if (Sort.xorNext r).toNat &&& (M - 1) ≥ L then ((Sort.xorNext r).toNat &&& (M - 1)) - L else (Sort.xorNext r).toNat &&& (M - 1)) = o) :
    bpRest a L M i0 (3 - t) t (r, d) = bpRest a L M i0 (3 - (t + 1)) (t + 1) (Sort.xorNext r, Sort.swp d (i0 + t) (a + o)) := by
  rw [show 3 - t = (3 - (t + 1)) + 1 by omega, bpRest]
  unfold Sort.breakStep
  simp only [ho]

set_option maxRecDepth 100000 in
set_option maxHeartbeats 1000000 in
theorem break_any (rest : List Value) (b n cap : Nat) (d : Array Int) (a e : Nat) (w : World) (h : SB rest w b d) (hn : d.size = n) (ha : a ≤ e) (he : e ≤ n) (hs : n ≤ 24) :
    Calls Try.prog 90 #[.slice (some ⟨b, 0, none⟩) n cap, .int .i64 a, .int .i64 e] w
      fun r w' => r = .returned (.tuple #[]) ∧ SB rest w' b (Sort.breakPatterns d a e) ∧ w.grownBy w' (some b) := by
  obtain ⟨L, hL⟩ : ∃ L : Nat, e = a + L := ⟨e - a, by omega⟩
  have hL' : (e : Int) - (a : Int) = L := by omega
  have L24 : L ≤ 24 := by omega
  have hal : a + L ≤ n := by omega
  have H := Lib.hid h
  have HN := Lib.hid hn
  clear h hn
  by_cases h8 : 8 ≤ L
  · obtain ⟨q, hq⟩ : ∃ q : Nat, q = L / 4 := ⟨_, rfl⟩
    have hq' : (L : Int) / 4 = q := by omega
    have q1 : 4 * q ≤ L := by omega
    have q2 : 2 ≤ q := by omega
    obtain ⟨i0, hi0⟩ : ∃ i0 : Nat, i0 = a + q * 2 - 1 := ⟨_, rfl⟩
    have hi0' : (a : Int) + (q : Int) * 2 - 1 = i0 := by omega
    obtain ⟨M, hM⟩ : ∃ M : Nat, M = 1 <<< Sort.bitsLen L := ⟨_, rfl⟩
    have M1 : 1 ≤ M := by rw [hM, Nat.one_shiftLeft]; exact Nat.two_pow_pos _
    have M2 : M ≤ 2 * L := by rw [hM, Nat.one_shiftLeft]; exact Sort.two_pow_bitsLen_le (by omega)
    have HR : Hid (Sort.breakPatterns d a e = bpRest a L M i0 3 0 (UInt64.ofNat L, d)) := Lib.hid (by rw [hL, bp_eq d a L h8, ← hM, ← hq, ← hi0])
    have cn := Lib.hid (fun w => nextPower_any L w (by omega))
    rw [← hM] at cn
    clear hL hq hi0 hM
    go_enter Try.func90, Try.ntmps90
    go_wp2_with fail
    refine (cn.out _).mono ?_
    rintro e1 w1 ⟨rfl, rfl⟩
    have hS : SB rest (w.alloc (.cells #[.int .u64 L] 108)) b d := Blk.alloc H.out _
    have hB : Blk (w.alloc (.cells #[.int .u64 L] 108)) w.heap.size 108 #[.int .u64 L] := Blk.new w 108 #[.int .u64 L]
    clear cn
    go_wp2
    have hG : w.grownBy (w.alloc (.cells #[.int .u64 L] 108)) (some b) := World.grownBy_alloc w _ _
    go_loopw [9] (fun x wr => ∃ (t j : Nat) (r : UInt64) (dk : Array Int), x = .int .i64 j ∧ i0 + t ≤ j ∧ j ≤ i0 + t ∧ t ≤ 3 ∧ dk.size ≤ n ∧ n ≤ dk.size ∧ SB rest wr b dk ∧ Blk wr w.heap.size 108 #[.int .u64 (r.toNat : Nat)] ∧ w.grownBy wr (some b) ∧ Hid (bpRest a L M i0 (3 - t) t (r, dk) = Sort.breakPatterns d a e)) (fun x _ => i0 + 4 - (intOf x).toNat)
    case atStart => exact ⟨0, i0, UInt64.ofNat L, d, rfl, by omega, by omega, by omega, by have := HN.out; omega, by have := HN.out; omega, hS, by rw [show (UInt64.ofNat L).toNat = L from by simp; omega]; exact hB, hG, Lib.hid HR.out.symm⟩
    case round =>
      clear hS hB hG
      obtain ⟨t, j, r, dk, rfl, j1, j2, t3, k1, k2, hS, hB, hG, HK⟩ := hrel
      by_cases ht : t < 3
      · obtain ⟨R, hR⟩ : ∃ R : Nat, R = r.toNat := ⟨_, rfl⟩
        have lR : R < 18446744073709551616 := by rw [hR]; exact r.toNat_lt
        obtain ⟨R', hR'⟩ : ∃ R' : Nat, R' = Sort.xorNextN R := ⟨_, rfl⟩
        have lR' : R' < 18446744073709551616 := by rw [hR']; exact Sort.xorNextN_lt R lR
        obtain ⟨O, hO⟩ : ∃ O : Nat, O = R' &&& (M - 1) := ⟨_, rfl⟩
        have lO : O ≤ M - 1 := by rw [hO]; exact Nat.and_le_right
        have eAnd : bits .and .u64 (R' : Int) ((M : Int) - 1) = (O : Int) := by
          rw [show ((M : Int) - 1) = ((M - 1 : Nat) : Int) by omega, bits_and_u64_nat _ _ lR' (by omega), hO]
        have hX : (Sort.xorNext r).toNat = R' := by rw [Sort.xorNext_toNat, ← hR, hR']
        have cN := Lib.hid (next_any w.heap.size R lR _ (by rw [hR]; exact hB))
        rw [← hR'] at cN
        have hbs : b ≠ w.heap.size := by have := Blk.lt H.out; omega
        have hS2 : SB rest (wr.setCell ⟨w.heap.size, 0, none⟩ (.int .u64 R')) b dk := SB.far hS hbs 0 _
        have hB2 : Blk (wr.setCell ⟨w.heap.size, 0, none⟩ (.int .u64 R')) w.heap.size 108 #[.int .u64 R'] := Blk.set_ hB 0 _
        have hG2 : w.grownBy (wr.setCell ⟨w.heap.size, 0, none⟩ (.int .u64 R')) (some b) := grown_far hG (Nat.le_refl _) 0 _
        obtain ⟨W2, hW2⟩ : ∃ W2 : World, W2 = (wr.setCell ⟨w.heap.size, 0, none⟩ (.int .u64 R')).drewN 3 := ⟨_, rfl⟩
        rw [← hW2] at cN
        replace hS2 : SB rest W2 b dk := by rw [hW2]; exact hS2
        replace hB2 : Blk W2 w.heap.size 108 #[.int .u64 R'] := by rw [hW2]; exact hB2
        replace hG2 : w.grownBy W2 (some b) := by rw [hW2]; exact grown_drewN hG2 _
        have HB2 := Lib.hid hB2
        have HX := Lib.hid hX
        clear hS hB hG hW2 hR hR' hX hB2
        have hd1 : decide ((j : Int) ≤ (a : Int) + (q : Int) * 2 + 1) = true := decide_eq_true (by omega)
        by_cases hOL : L ≤ O
        · obtain ⟨o, ho⟩ : ∃ o : Nat, o = O - L := ⟨_, rfl⟩
          have ho' : (O : Int) - (L : Int) = o := by omega
          have o1 : o < L := by omega
          obtain ⟨p, hp⟩ : ∃ p : Nat, p = a + o := ⟨_, rfl⟩
          have hp' : (a : Int) + (o : Int) = p := by omega
          have HK2 : Hid (bpRest a L M i0 (3 - (t + 1)) (t + 1) (Sort.xorNext r, Sort.swp dk j p) = Sort.breakPatterns d a e) := Lib.hid (by
            rw [← HK.out, bp_step a L M i0 t r dk o ht (by rw [HX.out, ← hO, if_pos hOL, ho]), show j = i0 + t by omega, hp])
          have hsz : (Sort.swp dk j p).size = dk.size := by simp [Sort.swp]
          clear HK hp
          have hd2 : decide ((L : Int) ≤ (O : Int)) = true := decide_eq_true (by omega)
          clear ho hO
          go_wp2_with fail
          refine cN.out.mono ?_
          rintro e1 w1 ⟨rfl, rfl⟩
          clear cN
          go_upto_region 10 with fail
          by_cases hij : j = p
          · subst hij
            have c1 := hS2.cell (i := j) (by omega)
            have c2 := hS2.cell (i := j) (by omega)
            have f1 := hS2.frozen j
            have f2 := hS2.frozen j
            go_region
            go_wp2
            exact ⟨⟨t + 1, j + 1, Sort.xorNext r, _, by go_num, by omega, by omega, by omega, by omega, by omega, SB.drew (SB.swap hS2 (by omega) (by omega)), by rw [HX.out]; exact Blk.drewN (Blk.far (Blk.far HB2.out (Ne.symm hbs) _) (Ne.symm hbs) _) 1, grown_drew1 (grown_set (grown_set hG2 _ _) _ _), HK2⟩, by simp [intOf] <;> omega⟩
          · have c1 := hS2.cell (i := j) (by omega)
            have c2 := hS2.cell (i := p) (by omega)
            have f1 := hS2.frozen j
            have f2 := hS2.frozen p
            go_region
            go_wp2
            exact ⟨⟨t + 1, j + 1, Sort.xorNext r, _, by go_num, by omega, by omega, by omega, by omega, by omega, SB.drew (SB.swap hS2 (by omega) (by omega)), by rw [HX.out]; exact Blk.drewN (Blk.far (Blk.far HB2.out (Ne.symm hbs) _) (Ne.symm hbs) _) 1, grown_drew1 (grown_set (grown_set hG2 _ _) _ _), HK2⟩, by simp [intOf] <;> omega⟩
        · obtain ⟨o, ho⟩ : ∃ o : Nat, o = O := ⟨_, rfl⟩
          have ho' : (O : Int) = o := by omega
          have o1 : o < L := by omega
          obtain ⟨p, hp⟩ : ∃ p : Nat, p = a + o := ⟨_, rfl⟩
          have hp' : (a : Int) + (o : Int) = p := by omega
          have HK2 : Hid (bpRest a L M i0 (3 - (t + 1)) (t + 1) (Sort.xorNext r, Sort.swp dk j p) = Sort.breakPatterns d a e) := Lib.hid (by
            rw [← HK.out, bp_step a L M i0 t r dk o ht (by rw [HX.out, ← hO, if_neg hOL, ho]), show j = i0 + t by omega, hp])
          have hsz : (Sort.swp dk j p).size = dk.size := by simp [Sort.swp]
          clear HK hp
          have hd2 : decide ((L : Int) ≤ (o : Int)) = false := decide_eq_false (by omega)
          rw [show O = o from by omega] at eAnd
          clear ho' ho hO
          go_wp2_with fail
          refine cN.out.mono ?_
          rintro e1 w1 ⟨rfl, rfl⟩
          clear cN
          go_upto_region 10 with fail
          by_cases hij : j = p
          · subst hij
            have c1 := hS2.cell (i := j) (by omega)
            have c2 := hS2.cell (i := j) (by omega)
            have f1 := hS2.frozen j
            have f2 := hS2.frozen j
            go_region
            go_wp2
            exact ⟨⟨t + 1, j + 1, Sort.xorNext r, _, by go_num, by omega, by omega, by omega, by omega, by omega, SB.drew (SB.swap hS2 (by omega) (by omega)), by rw [HX.out]; exact Blk.drewN (Blk.far (Blk.far HB2.out (Ne.symm hbs) _) (Ne.symm hbs) _) 1, grown_drew1 (grown_set (grown_set hG2 _ _) _ _), HK2⟩, by simp [intOf] <;> omega⟩
          · have c1 := hS2.cell (i := j) (by omega)
            have c2 := hS2.cell (i := p) (by omega)
            have f1 := hS2.frozen j
            have f2 := hS2.frozen p
            go_region
            go_wp2
            exact ⟨⟨t + 1, j + 1, Sort.xorNext r, _, by go_num, by omega, by omega, by omega, by omega, by omega, SB.drew (SB.swap hS2 (by omega) (by omega)), by rw [HX.out]; exact Blk.drewN (Blk.far (Blk.far HB2.out (Ne.symm hbs) _) (Ne.symm hbs) _) 1, grown_drew1 (grown_set (grown_set hG2 _ _) _ _), HK2⟩, by simp [intOf] <;> omega⟩
      · have HF : Hid (dk = Sort.breakPatterns d a e) := Lib.hid (by rw [← HK.out, show t = 3 by omega]; rfl)
        have hd1 : decide ((j : Int) ≤ (a : Int) + (q : Int) * 2 + 1) = false := decide_eq_false (by omega)
        clear HK
        go_wp2
        go_end0
        exact ⟨rfl, by rw [← HF.out]; exact hS, hG⟩
  · have HR : Hid (Sort.breakPatterns d a e = d) := Lib.hid (by unfold Sort.breakPatterns; rw [if_neg (by omega)])
    clear hL
    go_enter Try.func90, Try.ntmps90
    go_wp2
    go_end0
    exact ⟨rfl, by rw [HR.out]; exact H.out, grown_refl _ _⟩
end Go.Proofs.Ytidlfjaogjpokaa
