/- The walks of slices' sort at []uint32, sixth part: pdqsort, slices.Sort. -/
import Derived.Test.YtidlfjaogjpokaaSortB
import Derived.Test.YtidlfjaogjpokaaSortC
import Derived.Test.YtidlfjaogjpokaaSortE
namespace Go.Proofs.Ytidlfjaogjpokaa
open Go.RowKit

/-- the parts of Derived.Sort's pdq, behind the pivot's place -/
def pE (d : Array Int) (a b limit p : Nat) : Array Int :=
    (if a ≤ (Sort.partition lt32 d a b p).1 ∧ (Sort.partition lt32 d a b p).1 < b then
      (if (Sort.partition lt32 d a b p).1 - a < b - (Sort.partition lt32 d a b p).1 then
        Sort.pdq lt32 (Sort.pdq lt32 (Sort.partition lt32 d a b p).2.2 a (Sort.partition lt32 d a b p).1 limit true true) ((Sort.partition lt32 d a b p).1 + 1) b limit (decide ((Sort.partition lt32 d a b p).1 - a ≥ (b - a) / 8)) (Sort.partition lt32 d a b p).2.1
      else
        Sort.pdq lt32 (Sort.pdq lt32 (Sort.partition lt32 d a b p).2.2 ((Sort.partition lt32 d a b p).1 + 1) b limit true true) a (Sort.partition lt32 d a b p).1 limit (decide (b - (Sort.partition lt32 d a b p).1 ≥ (b - a) / 8)) (Sort.partition lt32 d a b p).2.1)
    else (Sort.partition lt32 d a b p).2.2)
def pD (d : Array Int) (a b limit p : Nat) (wb wp : Bool) : Array Int :=
  if a > 0 && !lt32 d[a - 1]! d[p]! then
    (if a < (Sort.partitionEqual lt32 d a b p).1 ∧ (Sort.partitionEqual lt32 d a b p).1 ≤ b then Sort.pdq lt32 (Sort.partitionEqual lt32 d a b p).2 (Sort.partitionEqual lt32 d a b p).1 b limit wb wp else (Sort.partitionEqual lt32 d a b p).2)
  else pE d a b limit p
def pC (d : Array Int) (a b limit p : Nat) (hint : Sort.Hint) (wb wp : Bool) : Array Int :=
  if wb && wp && hint = .increasing then (if (Sort.partialInsertionSort lt32 d a b).2 then d else pD d a b limit p wb wp) else pD d a b limit p wb wp
def pB (d : Array Int) (a b limit : Nat) (wb wp : Bool) : Array Int :=
  if (Sort.choosePivot lt32 d a b).2 = .decreasing then pC (Sort.reverseRange d a b) a b limit ((b - 1) - ((Sort.choosePivot lt32 d a b).1 - a)) .increasing wb wp
  else pC d a b limit (Sort.choosePivot lt32 d a b).1 (Sort.choosePivot lt32 d a b).2 wb wp

theorem pdq_pD (d : Array Int) (a b limit p : Nat) (wb wp : Bool) :
    (if a > 0 && !lt32 d[a - 1]! d[p]! then
      match Sort.partitionEqual lt32 d a b p with
      | (mid, d4) => if _h : a < mid ∧ mid ≤ b then Sort.pdq lt32 d4 mid b limit wb wp else d4
    else
      match Sort.partition lt32 d a b p with
      | (mid, alreadyPartitioned, d4) =>
        if _h : a ≤ mid ∧ mid < b then
          if mid - a < b - mid then
            Sort.pdq lt32 (Sort.pdq lt32 d4 a mid limit true true) (mid + 1) b limit (decide (mid - a ≥ (b - a) / 8)) alreadyPartitioned
          else
            Sort.pdq lt32 (Sort.pdq lt32 d4 (mid + 1) b limit true true) a mid limit (decide (b - mid ≥ (b - a) / 8)) alreadyPartitioned
        else d4) = pD d a b limit p wb wp := by
  unfold pD pE
  generalize Sort.partitionEqual lt32 d a b p = r
  generalize Sort.partition lt32 d a b p = s
  obtain ⟨r1, r2⟩ := r
  obtain ⟨s1, s2, s3⟩ := s
  simp only [dite_eq_ite]

theorem pdq_eq (d : Array Int) (a b limit : Nat) (wb wp : Bool) (h : b - a < 50) : Sort.pdq lt32 d a b limit wb wp =
    if b - a ≤ 12 then Sort.insertionSort lt32 d a b else if limit = 0 then Sort.heapSort lt32 d a b else
      if wb = true then pB d a b limit wb wp else pB (Sort.breakPatterns d a b) a b (limit - 1) wb wp := by
  rw [Sort.pdq]
  by_cases h1 : b - a ≤ 12
  · rw [if_pos h1, if_pos h1]
  rw [if_neg h1, if_neg h1]
  by_cases h2 : limit = 0
  · rw [if_pos h2, if_pos h2]
  rw [if_neg h2, if_neg h2]
  have key : ∀ (d1 : Array Int) (l1 : Nat), (let c := Sort.choosePivot lt32 d1 a b
      let d2 := if c.2 = .decreasing then Sort.reverseRange d1 a b else d1
      let pivot := if c.2 = .decreasing then (b - 1) - (c.1 - a) else c.1
      let hint := if c.2 = .decreasing then Sort.Hint.increasing else c.2
      let pi := if wb && wp && hint = .increasing then Sort.partialInsertionSort lt32 d2 a b else (d2, false)
      if pi.2 then pi.1 else pD pi.1 a b l1 pivot wb wp) = pB d1 a b l1 wb wp := by
    intro d1 l1
    unfold pB pC
    simp only [partialIns_short _ a b h]
    generalize Sort.choosePivot lt32 d1 a b = c
    obtain ⟨c1, c2⟩ := c
    cases c2 <;> cases wb <;> cases wp <;> simp
  cases wb with
  | true =>
    have k := key d limit
    simp only [← pdq_pD] at k
    refine Eq.trans ?_ (if_pos rfl).symm
    rw [← k]
    rfl
  | false =>
    have k := key (Sort.breakPatterns d a b) (limit - 1)
    simp only [← pdq_pD] at k
    refine Eq.trans ?_ (if_neg (by decide : ¬ (false = true))).symm
    rw [← k]
    rfl

theorem partEq_range (d : Array Int) (a b p : Nat) (h1 : a ≤ p) (h2 : p < b) (hb : b ≤ d.size) :
    a < (Sort.partitionEqual lt32 d a b p).1 ∧ (Sort.partitionEqual lt32 d a b p).1 ≤ b ∧ (Sort.partitionEqual lt32 d a b p).2.size = d.size := by
  unfold Sort.partitionEqual
  have hb0 : b ≤ (Sort.swp d a p).size := by rw [Sort.size_swp]; exact hb
  obtain ⟨r1, r2, r3, r4, r5⟩ := Sort.partEqLoop_spec lt32 a b _ (a + 1) (b - 1) (Sort.swp d a p) (Nat.le_refl _) (Nat.lt_succ_self a) (by omega) (by omega) hb0 (fun t h1 h2 => by omega) (fun t h1 h2 => by omega)
  exact ⟨r1, r2, by rw [r3.1, Sort.size_swp]⟩
theorem part_range (d : Array Int) (a b p : Nat) (h1 : a ≤ p) (h2 : p < b) (hb : b ≤ d.size) :
    a ≤ (Sort.partition lt32 d a b p).1 ∧ (Sort.partition lt32 d a b p).1 < b ∧ (Sort.partition lt32 d a b p).2.2.size = d.size := by
  obtain ⟨r1, r2, r3, _⟩ := Sort.partition_holds lt32 Sort.swo_ltInt d a b p h1 h2 hb
  exact ⟨r1, r2, r3.1⟩
theorem grown_below {a w w' : World} {b : Nat} (h : a.grownBy w (some b)) (hb : Below w.heap.size w w') : a.grownBy w' (some b) :=
  ⟨hb.os.trans h.os, hb.tape.trans h.tape, hb.output.trans h.output, Nat.le_trans h.size hb.size, fun k hk hne => (hb.block k (Nat.lt_of_lt_of_le hk h.size)).trans (h.block k hk hne)⟩
theorem break_size (d : Array Int) (a b : Nat) (h : a ≤ b) (hb : b ≤ d.size) : (Sort.breakPatterns d a b).size = d.size := (Sort.breakPatterns_holds d a b h hb).1
theorem reverse_size (d : Array Int) (a b : Nat) (h : a ≤ b) (hb : b ≤ d.size) : (Sort.reverseRange d a b).size = d.size := (Sort.reverseRange_holds d a b h hb).1

set_option maxRecDepth 100000 in
set_option maxHeartbeats 4000000 in
theorem pdq_any (rest : List Value) (b n cap : Nat) (hs : n ≤ 24) : ∀ (m : Nat) (d : Array Int) (a e limit : Nat) (w : World), e - a < m → SB rest w b d → d.size = n → a ≤ e → e ≤ n → limit ≤ 1000 →
    Calls Try.prog 85 #[.slice (some ⟨b, 0, none⟩) n cap, .int .i64 a, .int .i64 e, .int .i64 limit] w
      fun r w' => r = .returned (.tuple #[]) ∧ SB rest w' b (Sort.pdq lt32 d a e limit true true) ∧ w.grownBy w' (some b) ∧ (Sort.pdq lt32 d a e limit true true).size = n := by
  intro m
  induction m with
  | zero => intro d a e limit w h; omega
  | succ m ih =>
    intro d a e limit w hm h hn ha he hlim
    have IH := Lib.hid ih
    obtain ⟨T, hT⟩ : ∃ T, T = Sort.pdq lt32 d a e limit true true := ⟨_, rfl⟩
    rw [← hT]
    have HT := Lib.hid hT
    have hS := h
    have hG := grown_refl w (some b)
    have HN := Lib.hid hn
    clear h hn ih hT
    go_enter Try.func85, Try.ntmps85
    go_wp2
    go_loopw [1, 2, 3, 8, 9] (fun x1 x2 x3 x8 x9 wr => ∃ (a1 e1 l1 : Nat) (b1 p1 : Bool) (d1 : Array Int), x1 = .int .i64 a1 ∧ x2 = .int .i64 e1 ∧ x3 = .int .i64 l1 ∧ x8 = .bool b1 ∧ x9 = .bool p1 ∧ a1 ≤ e1 ∧ e1 ≤ n ∧ e1 + a ≤ e + a1 ∧ l1 ≤ limit ∧ d1.size ≤ n ∧ n ≤ d1.size ∧ SB rest wr b d1 ∧ w.grownBy wr (some b) ∧ Hid (Sort.pdq lt32 d1 a1 e1 l1 b1 p1 = T)) (fun x1 x2 _ _ _ _ => (intOf x2).toNat - (intOf x1).toNat)
    case atStart => exact ⟨a, e, limit, true, true, d, rfl, rfl, rfl, rfl, rfl, ha, he, by omega, by omega, by have := HN.out; omega, by have := HN.out; omega, hS, hG, Lib.hid HT.out.symm⟩
    case round =>
      clear hS hG
      obtain ⟨a1, e1, l1, b1, p1, d1, rfl, rfl, rfl, rfl, rfl, g1, g2, g3, g4, g5, g6, hS, hG, W7⟩ := hrel
      have W8 : Hid (T = _) := Lib.hid (W7.out.symm.trans (pdq_eq d1 a1 e1 l1 b1 p1 (by omega)))
      have HM := Lib.hid hm
      clear W7 HT HN ha he hm
      obtain ⟨L, hL⟩ : ∃ L : Nat, L = e1 - a1 := ⟨_, rfl⟩
      have hL' : (e1 : Int) - (a1 : Int) = L := by omega
      have hL3 : L + a1 ≤ e1 := by omega
      have hL4 : e1 ≤ L + a1 := by omega
      by_cases h12 : L ≤ 12
      · have W9 : Hid (T = Sort.insertionSort lt32 d1 a1 e1) := Lib.hid (by rw [W8.out, if_pos (by omega)])
        have hz := (Sort.insertionSort_holds Sort.swo_ltInt d1 a1 e1 g1 (by omega)).1.1
        have ci := Lib.hid (insertion_any rest b n cap d1 a1 e1 wr hS (by omega) g1 g2 (by omega))
        clear W8 hL
        go_wp2_with fail
        refine ci.out.mono ?_
        rintro r1 w1 ⟨rfl, hS1, hG1⟩
        go_wp2
        refine bodyPost_ret (results_none rfl _ _ _) rfl ?_
        exact ⟨rfl, by rw [W9.out]; exact hS1, grown_trans hG hG1, by rw [W9.out, hz]; omega⟩
      · by_cases hl0 : l1 = 0
        · have W9 : Hid (T = Sort.heapSort lt32 d1 a1 e1) := Lib.hid (by rw [W8.out, if_neg (by omega), if_pos hl0])
          have hz := (Sort.heapSort_holds Sort.swo_ltInt d1 a1 e1 g1 (by omega)).1.1
          have ci := Lib.hid (heap_any rest b n cap d1 a1 e1 wr hS (by omega) g1 g2 (by omega))
          clear W8 hL
          subst hl0
          go_wp2_with fail
          refine ci.out.mono ?_
          rintro r1 w1 ⟨rfl, hS1, hG1⟩
          go_wp2
          refine bodyPost_ret (results_none rfl _ _ _) rfl ?_
          exact ⟨rfl, by rw [W9.out]; exact hS1, grown_trans hG hG1, by rw [W9.out, hz]; omega⟩
        · obtain ⟨l2, hl2⟩ : ∃ l2 : Nat, l1 = l2 + 1 := ⟨l1 - 1, by omega⟩
          subst hl2
          have W9 : Hid (T = if b1 = true then pB d1 a1 e1 (l2 + 1) b1 p1 else pB (Sort.breakPatterns d1 a1 e1) a1 e1 l2 b1 p1) := Lib.hid (by rw [W8.out, if_neg (by omega), if_neg hl0]; rfl)
          clear W8 hL hl0
          go_upto_if 35 with fail
          go_cut [3] (fun x wr => ∃ (l : Nat) (d2 : Array Int), x = .int .i64 l ∧ l ≤ limit ∧ d2.size ≤ n ∧ n ≤ d2.size ∧ SB rest wr b d2 ∧ w.grownBy wr (some b) ∧ Hid (T = pB d2 a1 e1 l b1 p1))
          case first =>
            cases b1 with
            | true =>
              go_wp2
              go_meet
              case rel => exact ⟨l2 + 1, d1, by first | rfl | go_num, by omega, by omega, by omega, hS, hG, Lib.hid (by rw [W9.out]; simp)⟩
            | false =>
              have cb := Lib.hid (break_any rest b n cap d1 a1 e1 wr hS (by omega) g1 g2 hs)
              have hz := break_size d1 a1 e1 g1 (by omega)
              go_wp2_with fail
              refine cb.out.mono ?_
              rintro r1 w1 ⟨rfl, hS1, hG1⟩
              go_wp2
              go_meet
              case rel => exact ⟨l2, _, by first | rfl | go_num, by omega, by omega, by omega, hS1, grown_trans hG hG1, Lib.hid (by rw [W9.out]; simp)⟩
          case rest =>
            clear hS hG W9
            obtain ⟨l, d2, rfl, q1, q2, q3, hS, hG, V1⟩ := hcut
            have cc := Lib.hid (choose_any rest b n cap d2 a1 e1 wc hS (by omega) (by omega) g2 hs)
            obtain ⟨c1, c2⟩ := Sort.choosePivot_holds lt32 d2 a1 e1 (by omega)
            have V2 : Hid (T = _) := Lib.hid (V1.out.trans (by rw [pB]))
            clear V1 hS
            generalize Sort.choosePivot lt32 d2 a1 e1 = ch at cc c1 c2 V2
            obtain ⟨cp, hint⟩ := ch
            simp only at c1 c2
            go_upto_if 50 with fail
            refine cc.out.mono ?_
            rintro r1 w1 ⟨rfl, hS1, hB1⟩
            have hG1 := grown_below hG hB1
            clear hG hB1 cc
            go_upto_if 50 with fail
            go_cut [11, 12] (fun x y wr => ∃ (p : Nat) (h : Sort.Hint) (d3 : Array Int), x = .int .i64 p ∧ y = .int .i64 (hintN h) ∧ a1 ≤ p ∧ p < e1 ∧ d3.size ≤ n ∧ n ≤ d3.size ∧ SB rest wr b d3 ∧ w.grownBy wr (some b) ∧ Hid (T = pC d3 a1 e1 l p h b1 p1))
            case first =>
              cases hint with
              | decreasing =>
                obtain ⟨k1, hk1⟩ : ∃ k1 : Nat, (e1 : Int) - 1 = k1 := ⟨e1 - 1, by omega⟩
                obtain ⟨k2, hk2⟩ : ∃ k2 : Nat, (cp : Int) - (a1 : Int) = k2 := ⟨cp - a1, by omega⟩
                obtain ⟨k3, hk3⟩ : ∃ k3 : Nat, (k1 : Int) - (k2 : Int) = k3 := ⟨k1 - k2, by omega⟩
                have hk : (e1 - 1) - (cp - a1) = k3 := by omega
                have V3 : Hid (T = pC (Sort.reverseRange d2 a1 e1) a1 e1 l k3 .increasing b1 p1) := Lib.hid (by rw [V2.out]; simp [hk])
                have cr := Lib.hid (reverse_any rest b n cap d2 a1 e1 w1 hS1 (by omega) (by omega) g2 (by omega))
                have hz := reverse_size d2 a1 e1 g1 (by omega)
                have hh : hintN .decreasing = 2 := rfl
                clear V2 hk
                go_wp2_with fail
                refine cr.out.mono ?_
                rintro r1 w2 ⟨rfl, hS2, hG2⟩
                go_wp2
                go_meet
                case rel => exact ⟨k3, .increasing, _, by first | rfl | go_num, rfl, by omega, by omega, by omega, by omega, hS2, grown_trans hG1 hG2, V3⟩
              | increasing =>
                have hh : hintN .increasing = 1 := rfl
                go_wp2
                go_meet
                case rel => exact ⟨cp, .increasing, d2, rfl, rfl, by omega, by omega, by omega, by omega, hS1, hG1, Lib.hid (by rw [V2.out]; simp)⟩
              | unknown =>
                have hh : hintN .unknown = 0 := rfl
                go_wp2
                go_meet
                case rel => exact ⟨cp, .unknown, d2, rfl, rfl, by omega, by omega, by omega, by omega, hS1, hG1, Lib.hid (by rw [V2.out]; simp)⟩
            case rest =>
              clear hS1 hG1 V2 c1 c2 q2 q3
              obtain ⟨p, hint, d3, rfl, rfl, c1, c2, q2, q3, hS, hG, V1⟩ := hcut
              go_upto_region 15 with fail
              go_cut [68] (fun x wr => x = .bool (b1 && p1 && decide (hint = .increasing)) ∧ SB rest wr b d3 ∧ w.grownBy wr (some b))
              case first =>
                have hh1 : hintN .increasing = 1 := rfl
                have hh2 : hintN .unknown = 0 := rfl
                have hh3 : hintN .decreasing = 2 := rfl
                cases b1 <;> cases p1 <;> cases hint
                all_goals go_wp2
                all_goals go_meet
                all_goals exact ⟨rfl, hS, hG⟩
              case rest =>
                clear hS hG
                obtain ⟨rfl, hS, hG⟩ := hcut
                go_upto_if 68 with fail
                go_cut [] (fun wr => SB rest wr b d3 ∧ w.grownBy wr (some b) ∧ Hid (T = pD d3 a1 e1 l p b1 p1))
                case first =>
                  cases hB : (b1 && p1 && decide (hint = .increasing)) with
                  | false =>
                    have V3 : Hid (T = pD d3 a1 e1 l p b1 p1) := Lib.hid (by rw [V1.out, pC, if_neg (by rw [hB]; decide)])
                    clear hB
                    go_wp2
                    go_meet
                    case rel => exact ⟨hS, hG, V3⟩
                  | true =>
                    have V3 : Hid (T = if (Sort.partialInsertionSort lt32 d3 a1 e1).2 then d3 else pD d3 a1 e1 l p b1 p1) := Lib.hid (by rw [V1.out, pC, if_pos hB])
                    clear hB V1
                    have cp := Lib.hid (partialIns_any rest b n cap d3 a1 e1 _ hS (by omega) (by omega) g2 hs)
                    cases hQ : (Sort.partialInsertionSort lt32 d3 a1 e1).2 with
                    | true =>
                      rw [hQ] at cp V3
                      clear hQ
                      go_wp2_with fail
                      refine cp.out.mono ?_
                      rintro r1 w2 ⟨rfl, hS2, hG2⟩
                      go_wp2
                      refine bodyPost_ret (results_none rfl _ _ _) rfl ?_
                      exact ⟨rfl, by rw [V3.out]; exact hS2, grown_trans hG hG2, by rw [V3.out]; show d3.size = n; omega⟩
                    | false =>
                      rw [hQ] at cp V3
                      clear hQ
                      go_wp2_with fail
                      refine cp.out.mono ?_
                      rintro r1 w2 ⟨rfl, hS2, hG2⟩
                      go_wp2
                      go_meet
                      case rel => exact ⟨hS2, grown_trans hG hG2, Lib.hid (by rw [V3.out]; rfl)⟩
                case rest =>
                  clear hS hG V1
                  obtain ⟨hS, hG, V1⟩ := hcut
                  go_upto_region 17 with fail
                  obtain ⟨B, hB17⟩ : ∃ B : Bool, B = (decide (0 < a1) && !lt32 d3[a1 - 1]! d3[p]!) := ⟨_, rfl⟩
                  have HB := Lib.hid hB17
                  clear hB17
                  go_cut [87] (fun x wr => x = .bool B ∧ SB rest wr b d3 ∧ w.grownBy wr (some b))
                  case first =>
                    have cp := hS.cell (i := p) (by omega)
                    by_cases ha0 : 0 < a1
                    · obtain ⟨am, ham⟩ : ∃ am : Nat, am = a1 - 1 := ⟨_, rfl⟩
                      have ham' : (a1 : Int) - 1 = am := by omega
                      have ca := hS.cell (i := am) (by omega)
                      have hd : decide (0 < a1) = true := decide_eq_true ha0
                      have HB2 : Hid (B = !lt32 d3[am]! d3[p]!) := Lib.hid (by rw [HB.out, decide_eq_true ha0, ham, Bool.true_and])
                      clear ham ha0 HB
                      cases hp : lt32 d3[am]! d3[p]! with
                      | true =>
                        obtain rfl : B = false := by rw [HB2.out, hp]; rfl
                        go_wp2
                        go_quiet ((go_at_call 94; exact quiet_at (less_any _ _ _) ⟨_, rfl⟩))
                        rw [hp]
                        go_wp2
                        go_meet
                        case rel => exact ⟨rfl, SB.drewN hS _, grown_drewN hG _⟩
                      | false =>
                        obtain rfl : B = true := by rw [HB2.out, hp]; rfl
                        go_wp2
                        go_quiet ((go_at_call 94; exact quiet_at (less_any _ _ _) ⟨_, rfl⟩))
                        rw [hp]
                        go_wp2
                        go_meet
                        case rel => exact ⟨rfl, SB.drewN hS _, grown_drewN hG _⟩
                    · have hd : decide ((0 : Int) < (a1 : Int)) = false := decide_eq_false (by omega)
                      obtain rfl : B = false := by rw [HB.out, decide_eq_false ha0]; rfl
                      clear HB
                      go_wp2
                      go_quiet (fail)
                      go_wp2
                      go_meet
                      case rel => exact ⟨rfl, SB.drewN hS _, grown_drewN hG _⟩
                  case rest =>
                    clear hS hG
                    obtain ⟨rfl, hS, hG⟩ := hcut
                    go_upto_if 87 with fail
                    go_cut [1] (fun x wr => x = .int .i64 a1 ∧ SB rest wr b d3 ∧ w.grownBy wr (some b) ∧ Hid (T = pE d3 a1 e1 l p))
                    case first =>
                      cases B with
                      | false =>
                        have V3 : Hid (T = pE d3 a1 e1 l p) := Lib.hid (by rw [V1.out, pD]; exact if_neg (by rw [← HB.out]; decide))
                        clear HB V1
                        go_wp2
                        go_meet
                        case rel => exact ⟨rfl, hS, hG, V3⟩
                      | true =>
                        obtain ⟨r1, r2, r3⟩ := partEq_range d3 a1 e1 p c1 c2 (by omega)
                        have V3 : Hid (T = Sort.pdq lt32 (Sort.partitionEqual lt32 d3 a1 e1 p).2 (Sort.partitionEqual lt32 d3 a1 e1 p).1 e1 l b1 p1) := Lib.hid (by rw [V1.out, pD]; exact (if_pos (by rw [← HB.out])).trans (if_pos ⟨r1, r2⟩))
                        have cp := Lib.hid (partEqual_any rest b n cap d3 a1 e1 p _ hS (by omega) c1 c2 g2 (by omega))
                        clear HB V1
                        generalize Sort.partitionEqual lt32 d3 a1 e1 p = pr at cp V3 r1 r2 r3
                        obtain ⟨mid, d4⟩ := pr
                        simp only at r1 r2 r3
                        go_wp2_with fail
                        refine cp.out.mono ?_
                        rintro r1 w2 ⟨rfl, hS2, hG2⟩
                        go_wp2
                        exact ⟨⟨mid, e1, l, b1, p1, d4, rfl, rfl, rfl, rfl, rfl, by omega, by omega, by omega, by omega, by omega, by omega, hS2, grown_trans hG hG2, Lib.hid V3.out.symm⟩, by simp [intOf] <;> omega⟩
                    case rest =>
                      clear hS hG V1
                      obtain ⟨rfl, hS, hG, V1⟩ := hcut
                      obtain ⟨r1, r2, r3⟩ := part_range d3 a1 e1 p c1 c2 (by omega)
                      have V2' := V1.out
                      rw [pE, if_pos (And.intro r1 r2)] at V2'
                      have V2 := Lib.hid V2'
                      have cp := Lib.hid (partition_any rest b n cap d3 a1 e1 p _ hS (by omega) c1 c2 g2 (by omega))
                      clear V1 V2' HB
                      generalize Sort.partition lt32 d3 a1 e1 p = pr at cp V2 r1 r2 r3
                      obtain ⟨mid, ap, d4⟩ := pr
                      simp only at r1 r2 r3
                      obtain ⟨ml, hml⟩ : ∃ ml : Nat, ml = mid - a1 := ⟨_, rfl⟩
                      obtain ⟨mr, hmr⟩ : ∃ mr : Nat, mr = e1 - mid := ⟨_, rfl⟩
                      obtain ⟨q8, hq8⟩ : ∃ q8 : Nat, q8 = (e1 - a1) / 8 := ⟨_, rfl⟩
                      have hml' : (mid : Int) - (a1 : Int) = ml := by omega
                      have hmr' : (e1 : Int) - (mid : Int) = mr := by omega
                      have hq8' : (L : Int) / 8 = q8 := by omega
                      by_cases hlt : ml < mr
                      · have V3 : Hid (Sort.pdq lt32 (Sort.pdq lt32 d4 a1 mid l true true) (mid + 1) e1 l (decide (q8 ≤ ml)) ap = T) := Lib.hid (by
                          rw [V2.out]; simp only [← hml, ← hmr, ← hq8]; rw [if_pos hlt])
                        have cp2 := Lib.hid (fun w => IH.out d4 a1 mid l w (by have := HM.out; omega))
                        have hdl : decide ((ml : Int) < (mr : Int)) = true := decide_eq_true (by omega)
                        clear V2 hml hmr hq8
                        go_wp2_with fail
                        refine cp.out.mono ?_
                        rintro r1 w2 ⟨rfl, hS2, hG2⟩
                        go_wp2_with fail
                        refine (cp2.out w2 hS2 (by omega) (by omega) (by omega) (by omega)).mono ?_
                        rintro r1 w3 ⟨rfl, hS3, hG3, hz3⟩
                        go_wp2
                        exact ⟨⟨mid + 1, e1, l, _, ap, _, by go_num, rfl, rfl, rfl, rfl, by omega, by omega, by omega, by omega, by omega, by omega, hS3, grown_trans (grown_trans hG hG2) hG3, V3⟩, by simp [intOf] <;> omega⟩
                      · have V3 : Hid (Sort.pdq lt32 (Sort.pdq lt32 d4 (mid + 1) e1 l true true) a1 mid l (decide (q8 ≤ mr)) ap = T) := Lib.hid (by
                          rw [V2.out]; simp only [← hml, ← hmr, ← hq8]; rw [if_neg hlt])
                        have cp2 := Lib.hid (fun w => IH.out d4 (mid + 1) e1 l w (by have := HM.out; omega))
                        have hdl : decide ((ml : Int) < (mr : Int)) = false := decide_eq_false (by omega)
                        clear V2 hml hmr hq8
                        go_wp2_with fail
                        refine cp.out.mono ?_
                        rintro r1 w2 ⟨rfl, hS2, hG2⟩
                        go_wp2_with fail
                        refine (cp2.out w2 hS2 (by omega) (by omega) (by omega) (by omega)).mono ?_
                        rintro r1 w3 ⟨rfl, hS3, hG3, hz3⟩
                        go_wp2
                        exact ⟨⟨a1, mid, l, _, ap, _, rfl, rfl, rfl, rfl, rfl, by omega, by omega, by omega, by omega, by omega, by omega, hS3, grown_trans (grown_trans hG hG2) hG3, V3⟩, by simp [intOf] <;> omega⟩

/-- slices.Sort at []uint32, up to 24 elements -/
theorem sort_any (rest : List Value) (b n cap : Nat) (d : Array Int) (w : World) (h : SB rest w b d) (hn : d.size = n) (hs : n ≤ 24) :
    Calls Try.prog 76 #[.slice (some ⟨b, 0, none⟩) n cap] w
      fun r w' => r = .returned (.tuple #[]) ∧ SB rest w' b (d.toList.mergeSort (fun x y => !lt32 y x)).toArray ∧ w.grownBy w' (some b) := by
  have hb : Sort.bitsLen n ≤ 5 := (Sort.bitsLen_le_iff n 5).2 (by omega)
  have c1 := Lib.hid (fun w => len_any n w (by omega))
  have c2 := Lib.hid (fun w hw => pdq_any rest b n cap hs (n + 1) d 0 n (Sort.bitsLen n) w (by omega) hw hn (by omega) (by omega) (by omega))
  have hsrt : (Sort.pdq lt32 d 0 n (Sort.bitsLen n) true true).toList = d.toList.mergeSort (fun x y => !lt32 y x) := by
    have h1 := Sort.sort_sorts lt32 Sort.swo_ltInt d
    unfold Sort.sort at h1
    rw [hn] at h1
    refine Sort.sorted_unique_holds Sort.swo_ltInt ?_ d _ (by rw [hn]; exact h1.1) (by rw [hn]; exact h1.2)
    intro x y hx hy
    simp [lt32, Sort.ltInt] at hx hy
    omega
  have HS := Lib.hid hsrt
  have H := Lib.hid h
  clear h hn hsrt
  go_enter Try.func76, Try.ntmps76
  go_wp2_with fail
  refine (c1.out _).mono ?_
  rintro e1 w1 ⟨rfl, rfl⟩
  generalize Sort.bitsLen n = lim at c2 HS
  go_wp2_with fail
  refine (c2.out _ H.out).mono ?_
  rintro e1 w2 ⟨rfl, hS, hG, hz⟩
  go_wp2
  go_end0
  exact ⟨rfl, by rw [← HS.out]; exact hS, hG⟩
end Go.Proofs.Ytidlfjaogjpokaa
