/- The walks of slices' sort at []uint32, first part: comparisons, the insertion sort, the heap. The plain twins are Derived.Sort's. -/
import Derived.Test.YtidlfjaogjpokaaParA
import Derived.Sort.AssemblyPlain
namespace Go.Proofs.Ytidlfjaogjpokaa
open Go.RowKit

/-- Block b is the row d of uint32, with more cells behind it. -/
def SB (rest : List Value) (w : World) (b : Nat) (d : Array Int) : Prop := Blk w b 22 (ints .u32 d.toList ++ rest).toArray
abbrev lt32 : Int → Int → Bool := Sort.ltInt
section
variable {rest : List Value} {w w' : World} {b : Nat} {d : Array Int}
theorem SB.cell (h : SB rest w b d) {i : Nat} (hi : i < d.size) : w.cell? ⟨b, i, none⟩ = some (.int .u32 d[i]!) := by
  rw [Blk.cell h i]
  have h1 : i < (ints .u32 d.toList).length := by simpa [ints] using hi
  rw [List.getElem?_toArray, List.getElem?_append_left h1]
  simp [ints, hi]
theorem SB.frozen (h : SB rest w b d) (i : Nat) : w.frozen? ⟨b, i, none⟩ = false := Blk.frozen h i
theorem SB.set1 (h : SB rest w b d) {i : Nat} (hi : i < d.size) (x : Int) : SB rest (w.setCell ⟨b, i, none⟩ (.int .u32 x)) b (d.setIfInBounds i x) := by
  have h1 := Blk.set_ h i (.int .u32 x)
  unfold SB
  have e : ((ints .u32 d.toList ++ rest).toArray.setIfInBounds i (.int .u32 x)) = (ints .u32 (d.setIfInBounds i x).toList ++ rest).toArray := by
    have h2 : i < (ints .u32 d.toList).length := by simpa [ints] using hi
    simp [ints, List.set_append_left _ _ (show i < (d.toList.map (Value.int .u32)).length by simpa using hi), List.map_set]
  rw [← e]
  exact h1
theorem SB.drewN (h : SB rest w b d) (n : Nat) : SB rest (w.drewN n) b d := h
theorem SB.drew (h : SB rest w b d) : SB rest w.drew b d := h
theorem SB.swap (h : SB rest w b d) {i j : Nat} (hi : i < d.size) (hj : j < d.size) : SB rest ((w.setCell ⟨b, i, none⟩ (.int .u32 d[j]!)).setCell ⟨b, j, none⟩ (.int .u32 d[i]!)) b (Sort.swp d i j) :=
  (h.set1 hi _).set1 (by simpa using hj) _
theorem SB.kept (h : SB rest w b d) (hg : w.grownBy w' none) : SB rest w' b d := Blk.grown h hg (by simp)
theorem SB.below (h : SB rest w b d) (hb : Below w.heap.size w w') : SB rest w' b d := Blk.keep h hb
theorem grown_set (hg : w.grownBy w' (some b)) (i : Nat) (u : Value) : w.grownBy (w'.setCell ⟨b, i, none⟩ u) (some b) :=
  ⟨hg.os, hg.tape, hg.output, by simpa [World.setCell] using hg.size, fun k hk hne => (Below.heap_setCell w' ⟨b, i, none⟩ u k (by intro e; subst e; exact hne rfl)).trans (hg.block k hk hne)⟩
theorem grown_drewN (hg : w.grownBy w' (some b)) (n : Nat) : w.grownBy (w'.drewN n) (some b) := ⟨hg.os, hg.tape, hg.output, hg.size, hg.block⟩
theorem grown_trans {w'' : World} (hg : w.grownBy w' (some b)) (hg' : w'.grownBy w'' (some b)) : w.grownBy w'' (some b) :=
  ⟨hg'.os.trans hg.os, hg'.tape.trans hg.tape, hg'.output.trans hg.output, Nat.le_trans hg.size hg'.size, fun k hk hne => (hg'.block k (Nat.lt_of_lt_of_le hk hg.size) hne).trans (hg.block k hk hne)⟩
theorem grown_refl (w : World) (r : Option Nat) : w.grownBy w r := ⟨rfl, rfl, rfl, Nat.le_refl _, fun _ _ _ => rfl⟩
end

theorem less_any (x y : Int) (w : World) : Calls Try.prog 94 #[.int .u32 x, .int .u32 y] w fun e w' => e = .returned (.bool (lt32 x y)) ∧ w = w' := by
  go_enter Try.func94, Try.ntmps94
  go_wp2
  go_ret
  exact ⟨rfl, rfl⟩

set_option maxRecDepth 100000 in
theorem insertion_any (rest : List Value) (b n cap : Nat) (d : Array Int) (a e : Nat) (w : World) (h : SB rest w b d) (hn : d.size = n) (ha : a ≤ e) (he : e ≤ n) (hs : n ≤ 100000) :
    Calls Try.prog 88 #[.slice (some ⟨b, 0, none⟩) n cap, .int .i64 a, .int .i64 e] w
      fun r w' => r = .returned (.tuple #[]) ∧ SB rest w' b (Sort.insertionSort lt32 d a e) ∧ w.grownBy w' (some b) := by
  have H := Lib.hid h
  have HN := Lib.hid hn
  clear h hn
  go_enter Try.func88, Try.ntmps88
  go_wp2
  go_loopw [6, 7] (fun x _ wr => ∃ (i : Nat) (d' : Array Int), x = .int .i64 (i + 1) ∧ a ≤ i ∧ i ≤ e ∧ d'.size ≤ n ∧ n ≤ d'.size ∧ SB rest wr b d' ∧ w.grownBy wr (some b) ∧ Hid (Sort.insOuter lt32 a e (i + 1) d' = Sort.insertionSort lt32 d a e)) (fun x _ _ => e + 2 - (intOf x).toNat)
  case atStart => exact ⟨a, d, rfl, by omega, by omega, by have := HN.out; omega, by have := HN.out; omega, H.out, grown_refl _ _, Lib.hid rfl⟩
  case round =>
    obtain ⟨i, d', rfl, g1, g2, g3, g4, hS, hG, G5⟩ := hrel
    by_cases hlt : i + 1 < e
    · have G6 : Hid (Sort.insOuter lt32 a e (i + 2) (Sort.insInner lt32 a (i + 1) d') = Sort.insertionSort lt32 d a e) := Lib.hid (by
        rw [← G5.out]; conv => rhs; rw [Sort.insOuter]
        rw [if_pos hlt])
      have hdi : decide ((i : Int) + 1 < (e : Int)) = true := decide_eq_true (by omega)
      clear G5
      go_wp2
      obtain ⟨wo, rfl⟩ : ∃ wo : World, wo = wr := ⟨_, rfl⟩
      go_loopw [7] (fun x wr => ∃ (j : Nat) (d2 : Array Int), x = .int .i64 j ∧ a ≤ j ∧ j ≤ i + 1 ∧ d2.size ≤ n ∧ n ≤ d2.size ∧ SB rest wr b d2 ∧ w.grownBy wr (some b) ∧ Hid (Sort.insInner lt32 a j d2 = Sort.insInner lt32 a (i + 1) d')) (fun x _ => (intOf x).toNat)
      case atStart => exact ⟨i + 1, d', by go_num, by omega, by omega, g3, g4, hS, hG, Lib.hid rfl⟩
      case round =>
        obtain ⟨j, d2, rfl, k1, k2, k3, k4, hS2, hG2, K5⟩ := hrel
        by_cases hj : a < j
        · obtain ⟨m, rfl⟩ : ∃ m, j = m + 1 := ⟨j - 1, by omega⟩
          have c1 := hS2.cell (i := m + 1) (by omega)
          have c0 := hS2.cell (i := m) (by omega)
          have f1 := hS2.frozen (m + 1)
          have f0 := hS2.frozen m
          have hdj : decide ((a : Int) < (m : Int) + 1) = true := decide_eq_true (by omega)
          by_cases hl : lt32 d2[m + 1]! d2[m]! = true
          · have K6 : Hid (Sort.insInner lt32 a m (Sort.swp d2 (m + 1) m) = Sort.insInner lt32 a (i + 1) d') := Lib.hid (by rw [← K5.out, Sort.insInner, hl]; simp [hj])
            clear K5
            go_wp2
            go_quiet ((go_at_call 94; exact quiet_at (less_any _ _ _) ⟨_, rfl⟩))
            rw [hl]
            go_wp2
            go_region
            go_wp2
            exact ⟨⟨m, Sort.swp d2 (m + 1) m, rfl, by omega, by omega, by simp [Sort.swp]; omega, by simp [Sort.swp]; omega, (hS2.drewN _).swap (by omega) (by omega), grown_set (grown_set (grown_drewN hG2 _) _ _) _ _, K6⟩, by simp [intOf] <;> omega⟩
          · replace hl : lt32 d2[m + 1]! d2[m]! = false := by simpa using hl
            have K6 : Hid (d2 = Sort.insInner lt32 a (i + 1) d') := Lib.hid (by rw [← K5.out, Sort.insInner, hl]; simp)
            clear K5
            go_wp2
            go_quiet ((go_at_call 94; exact quiet_at (less_any _ _ _) ⟨_, rfl⟩))
            rw [hl]
            go_wp2
            exact ⟨⟨i + 1, d2, by go_num, by omega, by omega, k3, k4, hS2.drewN _, grown_drewN hG2 _, by rw [K6.out]; exact G6⟩, by simp [intOf] <;> omega⟩
        · have hja : j = a := by omega
          subst hja
          have K6 : Hid (d2 = Sort.insInner lt32 j (i + 1) d') := Lib.hid (by
            rw [← K5.out]
            rcases j with _ | m
            · rfl
            · rw [Sort.insInner]; simp)
          clear K5
          go_wp2
          go_quiet (fail)
          go_wp2
          exact ⟨⟨i + 1, d2, by go_num, by omega, by omega, k3, k4, hS2.drewN _, grown_drewN hG2 _, by rw [K6.out]; exact G6⟩, by simp [intOf] <;> omega⟩
    · have hr : Hid (d' = Sort.insertionSort lt32 d a e) := Lib.hid (by rw [← G5.out, Sort.insOuter, if_neg hlt])
      have hdi : decide ((i : Int) + 1 < (e : Int)) = false := decide_eq_false (by omega)
      clear G5
      go_wp2
      go_end0
      exact ⟨rfl, by rw [← hr.out]; exact hS, hG⟩

set_option maxRecDepth 100000 in
theorem sift_any (rest : List Value) (b n cap : Nat) (lo hi first : Nat) : ∀ (d : Array Int) (w : World), SB rest w b d → d.size = n → first + hi ≤ n → lo ≤ n → n ≤ 100000 →
    Calls Try.prog 98 #[.slice (some ⟨b, 0, none⟩) n cap, .int .i64 lo, .int .i64 hi, .int .i64 first] w
      fun r w' => r = .returned (.tuple #[]) ∧ SB rest w' b (Sort.siftDown lt32 hi first lo d) ∧ w.grownBy w' (some b) := by
  intro d w h hn he hlo hs
  have H := Lib.hid h
  have HN := Lib.hid hn
  clear h hn
  go_enter Try.func98, Try.ntmps98
  go_wp2
  go_loopw [8] (fun x wr => ∃ (r : Nat) (d' : Array Int), x = .int .i64 r ∧ r ≤ lo + hi ∧ d'.size ≤ n ∧ n ≤ d'.size ∧ SB rest wr b d' ∧ w.grownBy wr (some b) ∧ Hid (Sort.siftDown lt32 hi first r d' = Sort.siftDown lt32 hi first lo d)) (fun x _ => lo + hi + 1 - (intOf x).toNat)
  case atStart => exact ⟨lo, d, rfl, by omega, by have := HN.out; omega, by have := HN.out; omega, H.out, grown_refl _ _, Lib.hid rfl⟩
  case round =>
    obtain ⟨r, d', rfl, g0, g3, g4, hS, hG, G5⟩ := hrel
    by_cases hc : 2 * r + 1 < hi
    · have cr := hS.cell (i := first + r) (by omega)
      have c1 := hS.cell (i := first + (2 * r + 1)) (by omega)
      have f0 := hS.frozen (first + r)
      have f1 := hS.frozen (first + (2 * r + 1))
      have hd0 : decide ((hi : Int) ≤ 2 * (r : Int) + 1) = false := decide_eq_false (by omega)
      by_cases hc2 : 2 * r + 2 < hi
      · have c2 := hS.cell (i := first + (2 * r + 1) + 1) (by omega)
        have f2 := hS.frozen (first + (2 * r + 1 + 1))
        have hd1 : decide (2 * (r : Int) + 1 + 1 < (hi : Int)) = true := decide_eq_true (by omega)
        by_cases h1 : lt32 d'[first + (2 * r + 1)]! d'[first + (2 * r + 1) + 1]! = true
        · have c3 := hS.cell (i := first + (2 * r + 1 + 1)) (by omega)
          have G6 : Hid ((if !lt32 d'[first + r]! d'[first + (2 * r + 1 + 1)]! then d' else Sort.siftDown lt32 hi first (2 * r + 1 + 1) (Sort.swp d' (first + r) (first + (2 * r + 1 + 1)))) = Sort.siftDown lt32 hi first lo d) := Lib.hid (by
            rw [← G5.out]; conv => rhs; rw [Sort.siftDown]
            rw [dif_neg (by omega), h1, show decide (2 * r + 1 + 1 < hi) = true from decide_eq_true (by omega)]
            simp only [Bool.and_self, if_true]
            rw [dif_pos (by omega)])
          clear G5
          go_wp2
          go_quiet ((go_at_call 94; exact quiet_at (less_any _ _ _) ⟨_, rfl⟩))
          rw [h1]
          go_wp2
          by_cases h2 : lt32 d'[first + r]! d'[first + (2 * r + 1 + 1)]! = true
          · have K6 : Hid (Sort.siftDown lt32 hi first (2 * r + 1 + 1) (Sort.swp d' (first + r) (first + (2 * r + 1 + 1))) = Sort.siftDown lt32 hi first lo d) := Lib.hid (by rw [← G6.out, h2]; simp)
            clear G6
            go_quiet ((go_at_call 94; exact quiet_at (less_any _ _ _) ⟨_, rfl⟩))
            rw [h2]
            go_wp2
            go_region
            go_wp2
            exact ⟨⟨(2 * r + 1 + 1), Sort.swp d' (first + r) (first + (2 * r + 1 + 1)), by go_num, by omega, by simp [Sort.swp]; omega, by simp [Sort.swp]; omega, (hS.drewN _).swap (by omega) (by omega), grown_set (grown_set (grown_drewN hG _) _ _) _ _, K6⟩, by simp [intOf] <;> omega⟩
          · replace h2 : lt32 d'[first + r]! d'[first + (2 * r + 1 + 1)]! = false := by simpa using h2
            have K6 : Hid (d' = Sort.siftDown lt32 hi first lo d) := Lib.hid (by rw [← G6.out, h2]; simp)
            clear G6
            go_quiet ((go_at_call 94; exact quiet_at (less_any _ _ _) ⟨_, rfl⟩))
            rw [h2]
            go_wp2
            refine bodyPost_ret (results_none rfl _ _ _) rfl ?_
            exact ⟨rfl, by rw [← K6.out]; exact hS, by first | exact grown_drewN hG _ | exact grown_drewN (grown_drewN hG _) _⟩
        · replace h1 : lt32 d'[first + (2 * r + 1)]! d'[first + (2 * r + 1) + 1]! = false := by simpa using h1
          have G6 : Hid ((if !lt32 d'[first + r]! d'[first + (2 * r + 1)]! then d' else Sort.siftDown lt32 hi first (2 * r + 1) (Sort.swp d' (first + r) (first + (2 * r + 1)))) = Sort.siftDown lt32 hi first lo d) := Lib.hid (by
            rw [← G5.out]; conv => rhs; rw [Sort.siftDown]
            rw [dif_neg (by omega), h1]
            simp)
          clear G5
          go_wp2
          go_quiet ((go_at_call 94; exact quiet_at (less_any _ _ _) ⟨_, rfl⟩))
          rw [h1]
          go_wp2
          by_cases h2 : lt32 d'[first + r]! d'[first + (2 * r + 1)]! = true
          · have K6 : Hid (Sort.siftDown lt32 hi first (2 * r + 1) (Sort.swp d' (first + r) (first + (2 * r + 1))) = Sort.siftDown lt32 hi first lo d) := Lib.hid (by rw [← G6.out, h2]; simp)
            clear G6
            go_quiet ((go_at_call 94; exact quiet_at (less_any _ _ _) ⟨_, rfl⟩))
            rw [h2]
            go_wp2
            go_region
            go_wp2
            exact ⟨⟨(2 * r + 1), Sort.swp d' (first + r) (first + (2 * r + 1)), by go_num, by omega, by simp [Sort.swp]; omega, by simp [Sort.swp]; omega, (hS.drewN _).swap (by omega) (by omega), grown_set (grown_set (grown_drewN hG _) _ _) _ _, K6⟩, by simp [intOf] <;> omega⟩
          · replace h2 : lt32 d'[first + r]! d'[first + (2 * r + 1)]! = false := by simpa using h2
            have K6 : Hid (d' = Sort.siftDown lt32 hi first lo d) := Lib.hid (by rw [← G6.out, h2]; simp)
            clear G6
            go_quiet ((go_at_call 94; exact quiet_at (less_any _ _ _) ⟨_, rfl⟩))
            rw [h2]
            go_wp2
            refine bodyPost_ret (results_none rfl _ _ _) rfl ?_
            exact ⟨rfl, by rw [← K6.out]; exact hS, by first | exact grown_drewN hG _ | exact grown_drewN (grown_drewN hG _) _⟩
      · have hd1 : decide (2 * (r : Int) + 1 + 1 < (hi : Int)) = false := decide_eq_false (by omega)
        have G6 : Hid ((if !lt32 d'[first + r]! d'[first + (2 * r + 1)]! then d' else Sort.siftDown lt32 hi first (2 * r + 1) (Sort.swp d' (first + r) (first + (2 * r + 1)))) = Sort.siftDown lt32 hi first lo d) := Lib.hid (by
            rw [← G5.out]; conv => rhs; rw [Sort.siftDown]
            rw [dif_neg (by omega), show decide (2 * r + 1 + 1 < hi) = false from decide_eq_false (by omega)]
            simp)
        clear G5
        go_wp2
        go_quiet ((go_at_call 94; exact quiet_at (less_any _ _ _) ⟨_, rfl⟩))
        go_wp2
        by_cases h2 : lt32 d'[first + r]! d'[first + (2 * r + 1)]! = true
        · have K6 : Hid (Sort.siftDown lt32 hi first (2 * r + 1) (Sort.swp d' (first + r) (first + (2 * r + 1))) = Sort.siftDown lt32 hi first lo d) := Lib.hid (by rw [← G6.out, h2]; simp)
          clear G6
          go_quiet ((go_at_call 94; exact quiet_at (less_any _ _ _) ⟨_, rfl⟩))
          rw [h2]
          go_wp2
          go_region
          go_wp2
          exact ⟨⟨(2 * r + 1), Sort.swp d' (first + r) (first + (2 * r + 1)), by go_num, by omega, by simp [Sort.swp]; omega, by simp [Sort.swp]; omega, (hS.drewN _).swap (by omega) (by omega), grown_set (grown_set (grown_drewN hG _) _ _) _ _, K6⟩, by simp [intOf] <;> omega⟩
        · replace h2 : lt32 d'[first + r]! d'[first + (2 * r + 1)]! = false := by simpa using h2
          have K6 : Hid (d' = Sort.siftDown lt32 hi first lo d) := Lib.hid (by rw [← G6.out, h2]; simp)
          clear G6
          go_quiet ((go_at_call 94; exact quiet_at (less_any _ _ _) ⟨_, rfl⟩))
          rw [h2]
          go_wp2
          refine bodyPost_ret (results_none rfl _ _ _) rfl ?_
          exact ⟨rfl, by rw [← K6.out]; exact hS, by first | exact grown_drewN hG _ | exact grown_drewN (grown_drewN hG _) _⟩
    · have hd0 : decide ((hi : Int) ≤ 2 * (r : Int) + 1) = true := decide_eq_true (by omega)
      have K6 : Hid (d' = Sort.siftDown lt32 hi first lo d) := Lib.hid (by rw [← G5.out, Sort.siftDown, dif_pos (by omega)])
      clear G5
      go_wp2
      go_end0
      exact ⟨rfl, by rw [← K6.out]; exact hS, hG⟩

theorem size_sift (hi first : Nat) (m : Nat) : ∀ (r : Nat) (d : Array Int), hi - r ≤ m → (Sort.siftDown lt32 hi first r d).size = d.size := by
  induction m with
  | zero => intro r d h; rw [Sort.siftDown, dif_pos (by omega)]
  | succ m ih =>
    intro r d h
    rw [Sort.siftDown]
    split
    · rfl
    · split
      · split
        · rfl
        · split
          · rw [ih _ _ (by omega)]; simp [Sort.swp]
          · rfl
      · split
        · rfl
        · rw [ih _ _ (by omega)]; simp [Sort.swp]
theorem size_heapBuild (hi first : Nat) (k : Nat) : ∀ (d : Array Int), (Sort.heapBuild lt32 hi first k d).size = d.size := by
  induction k with
  | zero => intro d; rfl
  | succ k ih => intro d; rw [Sort.heapBuild, ih, size_sift hi first (hi - k) _ _ (Nat.le_refl _)]

set_option maxRecDepth 100000 in
theorem heap_any (rest : List Value) (b n cap : Nat) (d : Array Int) (a e : Nat) (w : World) (h : SB rest w b d) (hn : d.size = n) (ha : a ≤ e) (he : e ≤ n) (hs : n ≤ 100000) :
    Calls Try.prog 89 #[.slice (some ⟨b, 0, none⟩) n cap, .int .i64 a, .int .i64 e] w
      fun r w' => r = .returned (.tuple #[]) ∧ SB rest w' b (Sort.heapSort lt32 d a e) ∧ w.grownBy w' (some b) := by
  have H := Lib.hid h
  have HN := Lib.hid hn
  clear h hn
  obtain ⟨t, ht⟩ : ∃ t : Nat, e = a + t := ⟨e - a, by omega⟩
  obtain ⟨q, hq, hq'⟩ : ∃ q : Nat, ((t : Int) - 1).tdiv 2 = q ∧ q = (t - 1) / 2 := ⟨(t - 1) / 2, by
    rcases t with _ | t
    · rfl
    · rw [Int.tdiv_eq_ediv_of_nonneg (by omega)]; omega, rfl⟩
  have hh : (e : Int) - (a : Int) = t := by omega
  have ht1 : e ≤ a + t := by omega
  have ht2 : a + t ≤ e := by omega
  have hql : q ≤ t := by omega
  have HR : Hid (Sort.heapPop lt32 a t (Sort.heapBuild lt32 t a (q + 1) d) = Sort.heapSort lt32 d a e) := Lib.hid (by
    rw [Sort.heapSort, show e - a = t from by omega, hq'])
  clear hq' ht
  go_enter Try.func89, Try.ntmps89
  go_wp2
  go_loopw [9] (fun x wr => ∃ (k : Nat) (d' : Array Int), x = .int .i64 (k - 1) ∧ k ≤ q + 1 ∧ d'.size ≤ n ∧ n ≤ d'.size ∧ SB rest wr b d' ∧ w.grownBy wr (some b) ∧ Hid (Sort.heapPop lt32 a t (Sort.heapBuild lt32 t a k d') = Sort.heapSort lt32 d a e)) (fun x _ => (intOf x + 1).toNat)
  case atStart => exact ⟨q + 1, d, by go_num, by omega, by have := HN.out; omega, by have := HN.out; omega, H.out, grown_refl _ _, HR⟩
  case round =>
    obtain ⟨k, d', rfl, g1, g3, g4, hS, hG, G5⟩ := hrel
    clear HR
    rcases k with _ | k
    · have G6 : Hid (Sort.heapPop lt32 a t d' = Sort.heapSort lt32 d a e) := Lib.hid (by rw [← G5.out]; rfl)
      clear G5
      rw [show ((0 : Nat) : Int) - 1 = -1 from rfl]
      go_wp2
      obtain ⟨wo, rfl⟩ : ∃ wo : World, wo = wr := ⟨_, rfl⟩
      go_loopw [10] (fun x wr => ∃ (k : Nat) (d' : Array Int), x = .int .i64 (k - 1) ∧ k ≤ t ∧ d'.size ≤ n ∧ n ≤ d'.size ∧ SB rest wr b d' ∧ w.grownBy wr (some b) ∧ Hid (Sort.heapPop lt32 a k d' = Sort.heapSort lt32 d a e)) (fun x _ => (intOf x + 1).toNat)
      case atStart => exact ⟨t, d', rfl, by omega, g3, g4, hS, hG, G6⟩
      case round =>
        obtain ⟨k, d2, rfl, k1, k3, k4, hS2, hG2, K5⟩ := hrel
        rcases k with _ | k
        · have hr : Hid (d2 = Sort.heapSort lt32 d a e) := Lib.hid (by rw [← K5.out]; rfl)
          clear K5
          go_wp2
          go_end0
          exact ⟨rfl, by rw [← hr.out]; exact hS2, hG2⟩
        · have K6 : Hid (Sort.heapPop lt32 a k (Sort.siftDown lt32 k a 0 (Sort.swp d2 a (a + k))) = Sort.heapSort lt32 d a e) := Lib.hid (by rw [← K5.out]; rfl)
          have c1 := hS2.cell (i := a) (by omega)
          have c2 := hS2.cell (i := a + k) (by omega)
          have f1 := hS2.frozen a
          have f2 := hS2.frozen (a + k)
          have ek : ((k + 1 : Nat) : Int) - 1 = k := by omega
          rw [ek]
          clear K5 ek
          rcases k with _ | k
          · go_wp2
            go_region
            go_wp2_with fail
            have hS3 := Lib.hid ((hS2.drewN 1).swap (i := a) (j := a + 0) (by omega) (by omega))
            have hz1 : (Sort.swp d2 a (a + 0)).size = d2.size := by simp [Sort.swp]
            have hz := size_sift 0 a 0 0 (Sort.swp d2 a (a + 0)) (Nat.le_refl _)
            refine (sift_any rest b n cap 0 0 a _ _ hS3.out (by omega) (by omega) (by omega) hs).mono ?_
            rintro e w1 ⟨rfl, hS1, hG1⟩
            go_wp2
            exact ⟨⟨0, _, by go_num, by omega, by omega, by omega, hS1, grown_trans (grown_set (grown_set (grown_drewN hG2 1) _ _) _ _) hG1, K6⟩, by simp [intOf] <;> omega⟩
          · go_wp2
            go_region
            go_wp2_with fail
            have hS3 := Lib.hid ((hS2.drewN 1).swap (i := a) (j := a + (k + 1)) (by omega) (by omega))
            have hz1 : (Sort.swp d2 a (a + (k + 1))).size = d2.size := by simp [Sort.swp]
            have hz := size_sift (k + 1) a (k + 1) 0 (Sort.swp d2 a (a + (k + 1))) (Nat.le_refl _)
            refine (sift_any rest b n cap 0 (k + 1) a _ _ hS3.out (by omega) (by omega) (by omega) hs).mono ?_
            rintro e w1 ⟨rfl, hS1, hG1⟩
            go_wp2
            exact ⟨⟨(k + 1), _, by go_num, by omega, by omega, by omega, hS1, grown_trans (grown_set (grown_set (grown_drewN hG2 1) _ _) _ _) hG1, K6⟩, by simp [intOf] <;> omega⟩
    · have G6 : Hid (Sort.heapPop lt32 a t (Sort.heapBuild lt32 t a k (Sort.siftDown lt32 t a k d')) = Sort.heapSort lt32 d a e) := Lib.hid (by rw [← G5.out]; rfl)
      have ek : ((k + 1 : Nat) : Int) - 1 = k := by omega
      have hz := size_sift t a (t - k) k d' (Nat.le_refl _)
      rw [ek]
      clear G5 ek
      go_wp2_with fail
      refine (sift_any rest b n cap k t a d' wr hS (by omega) (by omega) (by omega) hs).mono ?_
      rintro e w1 ⟨rfl, hS1, hG1⟩
      go_wp2
      exact ⟨⟨k, _, rfl, by omega, by omega, by omega, hS1, grown_trans hG hG1, G6⟩, by simp [intOf] <;> omega⟩

set_option maxRecDepth 100000 in
theorem reverse_any (rest : List Value) (b n cap : Nat) (d : Array Int) (a e : Nat) (w : World) (h : SB rest w b d) (hn : d.size = n) (ha : a < e) (he : e ≤ n) (hs : n ≤ 100000) :
    Calls Try.prog 92 #[.slice (some ⟨b, 0, none⟩) n cap, .int .i64 a, .int .i64 e] w
      fun r w' => r = .returned (.tuple #[]) ∧ SB rest w' b (Sort.reverseRange d a e) ∧ w.grownBy w' (some b) := by
  have H := Lib.hid h
  have HN := Lib.hid hn
  clear h hn
  obtain ⟨t, ht⟩ : ∃ t : Nat, e = t + 1 := ⟨e - 1, by omega⟩
  have HR : Hid (Sort.reverseLoop a t d = Sort.reverseRange d a e) := Lib.hid (by rw [Sort.reverseRange, ht]; rfl)
  have he' : (e : Int) - 1 = t := by omega
  have ht1 : t + 1 ≤ e := by omega
  have ht2 : e ≤ t + 1 := by omega
  clear ht
  go_enter Try.func92, Try.ntmps92
  go_wp2
  go_loopw [6, 7] (fun x y wr => ∃ (i j : Nat) (d' : Array Int), x = .int .i64 i ∧ y = .int .i64 j ∧ a ≤ i ∧ i ≤ t + 1 ∧ j ≤ t ∧ d'.size ≤ n ∧ n ≤ d'.size ∧ SB rest wr b d' ∧ w.grownBy wr (some b) ∧ Hid (Sort.reverseLoop i j d' = Sort.reverseRange d a e)) (fun x _ _ => t + 2 - (intOf x).toNat)
  case atStart => exact ⟨a, t, d, rfl, rfl, by omega, by omega, by omega, by have := HN.out; omega, by have := HN.out; omega, H.out, grown_refl _ _, HR⟩
  case round =>
    obtain ⟨i, j, d', rfl, rfl, g0, g1, g2, g3, g4, hS, hG, G5⟩ := hrel
    clear HR
    by_cases hlt : i < j
    · have c1 := hS.cell (i := i) (by omega)
      have c2 := hS.cell (i := j) (by omega)
      have f1 := hS.frozen i
      have f2 := hS.frozen j
      have hne : ¬ i = j := by omega
      have hd : decide ((i : Int) < (j : Int)) = true := decide_eq_true (by omega)
      obtain ⟨m, hm⟩ : ∃ m : Nat, j = m + 1 := ⟨j - 1, by omega⟩
      have hj' : (j : Int) - 1 = m := by omega
      have G6 : Hid (Sort.reverseLoop (i + 1) m (Sort.swp d' i j) = Sort.reverseRange d a e) := Lib.hid (by
        rw [← G5.out]; conv => rhs; rw [Sort.reverseLoop]
        rw [if_pos hlt, show j - 1 = m from by omega])
      have hm1 : m ≤ t := by omega
      clear G5 hm
      go_wp2
      go_region
      go_wp2
      exact ⟨⟨i + 1, m, Sort.swp d' i j, by go_num, rfl, by omega, by omega, by omega, by simp [Sort.swp]; omega, by simp [Sort.swp]; omega, (hS.drewN 1).swap (by omega) (by omega), grown_set (grown_set (grown_drewN hG 1) _ _) _ _, G6⟩, by simp [intOf] <;> omega⟩
    · have hd : decide ((i : Int) < (j : Int)) = false := decide_eq_false (by omega)
      have hr : Hid (d' = Sort.reverseRange d a e) := Lib.hid (by rw [← G5.out, Sort.reverseLoop, if_neg hlt])
      clear G5
      go_wp2
      go_end0
      exact ⟨rfl, by rw [← hr.out]; exact hS, hG⟩
end Go.Proofs.Ytidlfjaogjpokaa
