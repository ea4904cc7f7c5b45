/- The walk of params.Check and params.Modulus. -/
import Derived.Test.YtidlfjaogjpokaaSortH
import Derived.Test.YtidlfjaogjpokaaRefB
import Derived.Laws.EntriesVeiled
namespace Go.Proofs.Ytidlfjaogjpokaa
open Go.RowKit

theorem chainGo_eq (good : Int → Bool) (sp : Int) : ∀ (l pre : List Int), pre.Nodup → M.chainGo good sp pre l = ((!(l.any fun q => decide (sp ≤ q) || !good q)) && decide (pre ++ l).Nodup)
  | [], pre, h => by simp [M.chainGo, h]
  | q :: l, pre, h => by
    rw [M.chainGo]
    by_cases hq : pre.contains q = true
    · have hm : q ∈ pre := by simpa using hq
      have hn : ¬ (pre ++ q :: l).Nodup := by
        intro hn
        exact ((List.nodup_append.1 hn).2.2 q hm q (by simp)) rfl
      rw [hq, decide_eq_false hn]
      simp
    · have hm : q ∉ pre := by simpa using hq
      have h2 : (pre ++ [q]).Nodup := by
        rw [List.nodup_append]
        exact ⟨h, by simp, by intro a ha b hb e; simp at hb; subst hb; subst e; exact hm ha⟩
      rw [chainGo_eq good sp l (pre ++ [q]) h2]
      have hq' : pre.contains q = false := by simpa using hq
      rw [hq', List.append_assoc, List.singleton_append, List.any_cons]
      by_cases h3 : sp ≤ q
      · have : ¬ q < sp := by omega
        simp [h3, this]
      · have : q < sp := by omega
        cases good q <;> simp [h3, this]

/-- what the conditions of Check tell, in order -/
def conds (N t s : Int) (l : List Int) (sp wt er : Int) : List Bool :=
  [decide (0 < t), decide ((1 : Int) ≤ l.length) && decide ((l.length : Int) ≤ 24), decide (1 ≤ wt) && decide (wt ≤ N) && decide (er ≤ 64), qOf s sp, !(l.any fun q => decide (sp ≤ q) || !qOf s q), decide l.Nodup]

theorem checkOf_conds (N pr pw : Int) (l : List Int) (sp wt er : Int) (hd : M.dimB N = true) :
    M.checkOf M.primeP N pr pw l sp wt er = (conds N (M.plainOf M.primeP N pr pw) (2 * N * M.plainOf M.primeP N pr pw) l sp wt er).all id := by
  have ht := M.plainOf_le M.primeP N pr pw
  unfold M.checkOf conds
  generalize M.plainOf M.primeP N pr pw = t at ht
  rw [chainGo_eq _ _ l [] List.nodup_nil, hd]
  have e1 : (t != 0) = decide (0 < t) := by
    by_cases h : t = 0
    · simp [h]
    · have : 0 < t := by omega
      simp [h, this]
  have e2 : decide ((1 : Int) ≤ l.length) = decide (1 ≤ l.length) := by simp; omega
  have e3 : decide ((l.length : Int) ≤ 24) = decide (l.length ≤ 24) := by simp; omega
  rw [e1, e2, e3]
  simp only [qOf_good, List.all_cons, List.all_nil, id, List.nil_append, Bool.and_true, Bool.true_and]
  ac_rfl

theorem check6_any (ad : Option Addr) (l : List Int) (c : Nat) (sp s : Int) (b f g : Nat) (w : World) (hl : Rd w ad (ints .u32 l)) (hc : l.length ≤ c) (hlen : l.length ≤ 100000)
    (hc3 : w.cell? ⟨b, 3, none⟩ = some (.slice ad l.length c)) (hc4 : w.cell? ⟨b, 4, none⟩ = some (.int .u32 sp)) (hf : w.cell? ⟨f, 0, none⟩ = some (.func (.func 65) #[] #[.pointer (some ⟨g, 0, none⟩)]))
    (hg : w.cell? ⟨g, 0, none⟩ = some (.int .i64 s)) (hb : ∀ q ∈ l, 0 ≤ q ∧ q < 4294967296) (hs : 1 ≤ s) (hs' : s ≤ 9223372036854775807) :
    Calls Try.prog 71 #[.pointer (some ⟨b, 0, none⟩), .pointer (some ⟨f, 0, none⟩)] w
      fun e w' => e = .returned (.bool (!(l.any fun q => decide (sp ≤ q) || !qOf s q))) ∧ Below w.heap.size w w' := by
  have cc := Lib.hid (contains_any ad l c sp s b f g w hl hc hlen hc4 hf hg hb hs hs')
  have hc3' := hc3
  clear hl hb hc4 hf hg
  go_enter Try.func71, Try.ntmps71
  go_wp2_with fail
  refine cc.out.mono ?_
  rintro e w1 ⟨rfl, hb1⟩
  go_wp2
  go_ret
  exact ⟨rfl, hb1⟩

theorem below_same {P : Program} {f : Nat} {args : Array Value} {w : World} {Q : Ending → Prop} (h : Calls P f args w fun e w' => Q e ∧ w = w') : Calls P f args w fun e w' => Q e ∧ Below w.heap.size w w' :=
  h.mono (by rintro e w' ⟨h, rfl⟩; exact ⟨h, Below.refl _ _⟩)

set_option maxRecDepth 100000 in
set_option maxHeartbeats 1000000 in
theorem pcheck_any (N pr pw sp wt er : Int) (A : Option Addr) (l : List Int) (c : Nat) (w : World) (hl : Rd w A (ints .u32 l)) (hc : l.length ≤ c) (hb : ∀ q ∈ l, 0 ≤ q ∧ q < 4294967296)
    (p0 : 0 ≤ pr) (p1 : pr < 4294967296) (r0 : -9223372036854775808 ≤ pw) (r1 : pw ≤ 9223372036854775807) (s0 : 0 ≤ sp) (s1 : sp < 4294967296) (hlen : l.length ≤ 100000) :
    Calls Try.prog 47 #[.agg #[.int .i64 N, .int .u32 pr, .int .i64 pw, .slice A l.length c, .int .u32 sp, .int .i64 wt, .int .u32 er]] w
      fun e w' => e = .returned (.int .i64 (M.errno (M.checkOf M.primeP N pr pw l sp wt er))) ∧ Below w.heap.size w w' := by
  cases hd : M.dimB N with
  | false =>
    have HR : Hid (M.checkOf M.primeP N pr pw l sp wt er = false) := Lib.hid (M.checkOf_no (Or.inl hd))
    have cd := Lib.hid (fun w => dim_any N w)
    rw [hd] at cd
    clear hl hb hd
    go_enter Try.func47, Try.ntmps47
    go_wp2_with fail
    refine (cd.out _).mono ?_
    rintro e w1 ⟨rfl, rfl⟩
    go_wp2
    go_ret
    exact ⟨ret_int (by rw [HR.out]; rfl), (Below.refl _ _).alloc (Nat.le_refl _) _⟩
  | true =>
    have HC := Lib.hid (checkOf_conds N pr pw l sp wt er hd)
    have hN := M.dimB_le N hd
    have hN1 : 4 ≤ N := by omega
    have hN2 : N ≤ 32 := by omega
    have cd := Lib.hid (fun w => dim_any N w)
    have cp := Lib.hid (fun w => ppower_any N pr pw w hN1 hN2 p0 p1 r0 r1)
    have ht := M.plainOf_le M.primeP N pr pw
    rw [hd] at cd
    generalize M.plainOf M.primeP N pr pw = t at HC cp ht
    obtain ⟨t0, t1⟩ := ht
    have HL := Lib.hid hl
    have HB := Lib.hid hb
    clear hl hb hd hN
    go_enter Try.func47, Try.ntmps47
    go_wp2_with fail
    refine (cd.out _).mono ?_
    rintro e w1 ⟨rfl, rfl⟩
    have hK : Blk (w.alloc (.cells #[.int .i64 N, .int .u32 pr, .int .i64 pw, .slice A l.length c, .int .u32 sp, .int .i64 wt, .int .u32 er] 25)) w.heap.size 25 #[.int .i64 N, .int .u32 pr, .int .i64 pw, .slice A l.length c, .int .u32 sp, .int .i64 wt, .int .u32 er] := Blk.new _ _ _
    have hB0 : Below w.heap.size w (w.alloc (.cells #[.int .i64 N, .int .u32 pr, .int .i64 pw, .slice A l.length c, .int .u32 sp, .int .i64 wt, .int .u32 er] 25)) := (Below.refl _ _).alloc (Nat.le_refl _) _
    go_wp2_with fail
    refine (cp.out _).mono ?_
    rintro e w1 ⟨rfl, hb1⟩
    replace hK := hK.keep hb1
    replace hB0 := bl_then hB0 hb1 (Nat.le_refl _)
    have d0 : w1.cell? ⟨w.heap.size, 0, none⟩ = some (.int .i64 N) := hK.cellv 0 rfl
    have e1 : 2 * N * t ≤ 64 * 2147483647 := Int.mul_le_mul (by omega) t1 t0 (by omega)
    have e0 : 0 ≤ 2 * N * t := Int.mul_nonneg (by omega) t0
    obtain ⟨bp, hbp⟩ : ∃ bp : Nat, bp = w.heap.size := ⟨_, rfl⟩
    obtain ⟨s, hs⟩ : ∃ s : Int, 2 * N * t = s := ⟨_, rfl⟩
    simp only [← hbp] at hK d0 ⊢
    have HBP := Lib.hid hbp
    clear hbp
    have K1 := Blk.alloc hK (.cells #[.int .i64 t] 2)
    have T1 : Blk (w1.alloc (.cells #[.int .i64 t] 2)) w1.heap.size 2 #[.int .i64 t] := Blk.new _ _ _
    have d1 : (w1.alloc (.cells #[.int .i64 t] 2)).cell? ⟨bp, 0, none⟩ = some (.int .i64 N) := K1.cellv 0 rfl
    have d2 : (w1.alloc (.cells #[.int .i64 t] 2)).cell? ⟨w1.heap.size, 0, none⟩ = some (.int .i64 t) := T1.cellv 0 rfl
    have z2 : ((w1.alloc (.cells #[.int .i64 t] 2)).alloc (.cells #[.int .i64 s] 2)).heap.size = w1.heap.size + 1 + 1 := by simp
    have T3 : Blk (((w1.alloc (.cells #[.int .i64 t] 2)).alloc (.cells #[.int .i64 s] 2)).alloc (.cells #[.nilFunc] 74)) (w1.heap.size + 1 + 1) 74 #[.nilFunc] := by rw [← z2]; exact Blk.new _ _ _
    have d3 : (((w1.alloc (.cells #[.int .i64 t] 2)).alloc (.cells #[.int .i64 s] 2)).alloc (.cells #[.nilFunc] 74)).cell? ⟨w1.heap.size + 1 + 1, 0, none⟩ = some .nilFunc := T3.cellv 0 rfl
    have d4 := T3.frozen 0
    clear cd cp hb1 z2
    go_wp2
    have F1 : Blk ((w1.alloc (.cells #[.int .i64 t] 2)).alloc (.cells #[.int .i64 s] 2)) (w1.heap.size + 1) 2 #[.int .i64 s] := by rw [show w1.heap.size + 1 = (w1.alloc (.cells #[.int .i64 t] 2)).heap.size by simp]; exact Blk.new _ _ _
    have F2 : Blk (((w1.alloc (.cells #[.int .i64 t] 2)).alloc (.cells #[.int .i64 s] 2)).alloc (.cells #[.func (.func 65) #[] #[.pointer (some ⟨w1.heap.size + 1, 0, none⟩)]] 74)) (w1.heap.size + 1 + 1) 74 #[.func (.func 65) #[] #[.pointer (some ⟨w1.heap.size + 1, 0, none⟩)]] := by rw [show w1.heap.size + 1 + 1 = ((w1.alloc (.cells #[.int .i64 t] 2)).alloc (.cells #[.int .i64 s] 2)).heap.size by simp]; exact Blk.new _ _ _
    have F3 : Blk ((((w1.alloc (.cells #[.int .i64 t] 2)).alloc (.cells #[.int .i64 s] 2)).alloc (.cells #[.func (.func 65) #[] #[.pointer (some ⟨w1.heap.size + 1, 0, none⟩)]] 74)).alloc (.cells #[.func (.func 67) #[] #[.pointer (some ⟨w1.heap.size, 0, none⟩)], .func (.func 68) #[] #[.pointer (some ⟨bp, 0, none⟩)], .func (.func 69) #[] #[.pointer (some ⟨bp, 0, none⟩)], .func (.func 70) #[] #[.pointer (some ⟨w1.heap.size + 1 + 1, 0, none⟩), .pointer (some ⟨bp, 0, none⟩)], .func (.func 71) #[] #[.pointer (some ⟨bp, 0, none⟩), .pointer (some ⟨w1.heap.size + 1 + 1, 0, none⟩)], .func (.func 74) #[] #[.pointer (some ⟨bp, 0, none⟩)]] 31)) (w1.heap.size + 1 + 1 + 1) 31 #[.func (.func 67) #[] #[.pointer (some ⟨w1.heap.size, 0, none⟩)], .func (.func 68) #[] #[.pointer (some ⟨bp, 0, none⟩)], .func (.func 69) #[] #[.pointer (some ⟨bp, 0, none⟩)], .func (.func 70) #[] #[.pointer (some ⟨w1.heap.size + 1 + 1, 0, none⟩), .pointer (some ⟨bp, 0, none⟩)], .func (.func 71) #[] #[.pointer (some ⟨bp, 0, none⟩), .pointer (some ⟨w1.heap.size + 1 + 1, 0, none⟩)], .func (.func 74) #[] #[.pointer (some ⟨bp, 0, none⟩)]] := by rw [show w1.heap.size + 1 + 1 + 1 = (((w1.alloc (.cells #[.int .i64 t] 2)).alloc (.cells #[.int .i64 s] 2)).alloc (.cells #[.func (.func 65) #[] #[.pointer (some ⟨w1.heap.size + 1, 0, none⟩)]] 74)).heap.size by simp]; exact Blk.new _ _ _
    replace K1 := ((K1.alloc (.cells #[.int .i64 s] 2)).alloc (.cells #[.func (.func 65) #[] #[.pointer (some ⟨w1.heap.size + 1, 0, none⟩)]] 74)).alloc (.cells #[.func (.func 67) #[] #[.pointer (some ⟨w1.heap.size, 0, none⟩)], .func (.func 68) #[] #[.pointer (some ⟨bp, 0, none⟩)], .func (.func 69) #[] #[.pointer (some ⟨bp, 0, none⟩)], .func (.func 70) #[] #[.pointer (some ⟨w1.heap.size + 1 + 1, 0, none⟩), .pointer (some ⟨bp, 0, none⟩)], .func (.func 71) #[] #[.pointer (some ⟨bp, 0, none⟩), .pointer (some ⟨w1.heap.size + 1 + 1, 0, none⟩)], .func (.func 74) #[] #[.pointer (some ⟨bp, 0, none⟩)]] 31)
    replace T1 := ((T1.alloc (.cells #[.int .i64 s] 2)).alloc (.cells #[.func (.func 65) #[] #[.pointer (some ⟨w1.heap.size + 1, 0, none⟩)]] 74)).alloc (.cells #[.func (.func 67) #[] #[.pointer (some ⟨w1.heap.size, 0, none⟩)], .func (.func 68) #[] #[.pointer (some ⟨bp, 0, none⟩)], .func (.func 69) #[] #[.pointer (some ⟨bp, 0, none⟩)], .func (.func 70) #[] #[.pointer (some ⟨w1.heap.size + 1 + 1, 0, none⟩), .pointer (some ⟨bp, 0, none⟩)], .func (.func 71) #[] #[.pointer (some ⟨bp, 0, none⟩), .pointer (some ⟨w1.heap.size + 1 + 1, 0, none⟩)], .func (.func 74) #[] #[.pointer (some ⟨bp, 0, none⟩)]] 31)
    replace F1 := (F1.alloc (.cells #[.func (.func 65) #[] #[.pointer (some ⟨w1.heap.size + 1, 0, none⟩)]] 74)).alloc (.cells #[.func (.func 67) #[] #[.pointer (some ⟨w1.heap.size, 0, none⟩)], .func (.func 68) #[] #[.pointer (some ⟨bp, 0, none⟩)], .func (.func 69) #[] #[.pointer (some ⟨bp, 0, none⟩)], .func (.func 70) #[] #[.pointer (some ⟨w1.heap.size + 1 + 1, 0, none⟩), .pointer (some ⟨bp, 0, none⟩)], .func (.func 71) #[] #[.pointer (some ⟨bp, 0, none⟩), .pointer (some ⟨w1.heap.size + 1 + 1, 0, none⟩)], .func (.func 74) #[] #[.pointer (some ⟨bp, 0, none⟩)]] 31)
    replace F2 := F2.alloc (.cells #[.func (.func 67) #[] #[.pointer (some ⟨w1.heap.size, 0, none⟩)], .func (.func 68) #[] #[.pointer (some ⟨bp, 0, none⟩)], .func (.func 69) #[] #[.pointer (some ⟨bp, 0, none⟩)], .func (.func 70) #[] #[.pointer (some ⟨w1.heap.size + 1 + 1, 0, none⟩), .pointer (some ⟨bp, 0, none⟩)], .func (.func 71) #[] #[.pointer (some ⟨bp, 0, none⟩), .pointer (some ⟨w1.heap.size + 1 + 1, 0, none⟩)], .func (.func 74) #[] #[.pointer (some ⟨bp, 0, none⟩)]] 31)
    have hB1 : Below w.heap.size w ((((w1.alloc (.cells #[.int .i64 t] 2)).alloc (.cells #[.int .i64 s] 2)).alloc (.cells #[.func (.func 65) #[] #[.pointer (some ⟨w1.heap.size + 1, 0, none⟩)]] 74)).alloc (.cells #[.func (.func 67) #[] #[.pointer (some ⟨w1.heap.size, 0, none⟩)], .func (.func 68) #[] #[.pointer (some ⟨bp, 0, none⟩)], .func (.func 69) #[] #[.pointer (some ⟨bp, 0, none⟩)], .func (.func 70) #[] #[.pointer (some ⟨w1.heap.size + 1 + 1, 0, none⟩), .pointer (some ⟨bp, 0, none⟩)], .func (.func 71) #[] #[.pointer (some ⟨bp, 0, none⟩), .pointer (some ⟨w1.heap.size + 1 + 1, 0, none⟩)], .func (.func 74) #[] #[.pointer (some ⟨bp, 0, none⟩)]] 31)) := (((hB0.alloc hB0.size _).alloc (Nat.le_trans hB0.size (by simp)) _).alloc (Nat.le_trans hB0.size (by simp; omega)) _).alloc (Nat.le_trans hB0.size (by simp; omega)) _
    obtain ⟨W, hW⟩ : ∃ W : World, W = ((((w1.alloc (.cells #[.int .i64 t] 2)).alloc (.cells #[.int .i64 s] 2)).alloc (.cells #[.func (.func 65) #[] #[.pointer (some ⟨w1.heap.size + 1, 0, none⟩)]] 74)).alloc (.cells #[.func (.func 67) #[] #[.pointer (some ⟨w1.heap.size, 0, none⟩)], .func (.func 68) #[] #[.pointer (some ⟨bp, 0, none⟩)], .func (.func 69) #[] #[.pointer (some ⟨bp, 0, none⟩)], .func (.func 70) #[] #[.pointer (some ⟨w1.heap.size + 1 + 1, 0, none⟩), .pointer (some ⟨bp, 0, none⟩)], .func (.func 71) #[] #[.pointer (some ⟨bp, 0, none⟩), .pointer (some ⟨w1.heap.size + 1 + 1, 0, none⟩)], .func (.func 74) #[] #[.pointer (some ⟨bp, 0, none⟩)]] 31)) := ⟨_, rfl⟩
    rw [← hW] at K1 T1 F1 F2 F3 hB1 ⊢
    clear hW d0 d1 d2 d3 d4 T3 hK hB0
    generalize w1.heap.size + 1 + 1 + 1 = bl at *
    generalize w1.heap.size + 1 + 1 = bf at *
    generalize w1.heap.size + 1 = bs at *
    generalize w1.heap.size = bt at *
    have HS : Hid (1 ≤ t → 1 ≤ s) := Lib.hid (fun h => by have h8 : 8 * 1 ≤ 2 * N * t := Int.mul_le_mul (by omega) h (by omega) (by omega); omega)
    have sb : s ≤ 9223372036854775807 := by omega
    rw [hs] at HC
    clear e0 e1 hs
    go_loopw [35] (fun x wr => ∃ i : Nat, x = .int .i64 i ∧ i ≤ 6 ∧ Below W.heap.size W wr ∧ (1 ≤ i → 1 ≤ t) ∧ (2 ≤ i → 1 ≤ l.length ∧ l.length ≤ 24) ∧ Hid (M.checkOf M.primeP N pr pw l sp wt er = ((conds N t s l sp wt er).drop i).all id)) (fun x _ => 6 - (intOf x).toNat)
    case atStart => exact ⟨0, rfl, by omega, Below.refl _ _, by omega, by omega, HC⟩
    case round =>
      obtain ⟨i, rfl, i6, hB, g1, g2, HD⟩ := hrel
      clear HC
      have hcase : i = 0 ∨ i = 1 ∨ i = 2 ∨ i = 3 ∨ i = 4 ∨ i = 5 ∨ i = 6 := by omega
      rcases hcase with rfl | rfl | rfl | rfl | rfl | rfl | rfl
      · skip
        have cq := Lib.hid (below_same (check2_any t bt wr ((T1.keep hB).cellv 0 rfl)))
        have cl : wr.cell? ⟨bl, 0, none⟩ = some _ := (F3.keep hB).cellv 0 rfl
        cases hv : decide (0 < t) with
        | true =>
          have HD2 : Hid (M.checkOf M.primeP N pr pw l sp wt er = ((conds N t s l sp wt er).drop 1).all id) := Lib.hid (by
            rw [HD.out]; simp only [conds, List.drop_succ_cons, List.drop_zero, List.all_cons, List.all_nil, hv, id, Bool.true_and])
          rw [hv] at cq
          have gt : 1 ≤ 1 → 1 ≤ t := fun _ => by have := of_decide_eq_true hv; omega
          have gl : 2 ≤ 1 → 1 ≤ l.length ∧ l.length ≤ 24 := by omega
          clear HD hv g1 g2
          go_wp2_with fail
          refine cq.out.mono ?_
          rintro e w' ⟨rfl, hb1⟩
          go_wp2
          exact ⟨⟨1, rfl, by omega, bl_then hB hb1 (Nat.le_refl _), gt, gl, HD2⟩, by simp [intOf]⟩
        | false =>
          have HD2 : Hid (M.checkOf M.primeP N pr pw l sp wt er = false) := Lib.hid (by
            rw [HD.out]; simp only [conds, List.drop_succ_cons, List.drop_zero, List.all_cons, List.all_nil, hv, id, Bool.false_and])
          rw [hv] at cq
          clear HD hv g1 g2
          go_wp2_with fail
          refine cq.out.mono ?_
          rintro e w' ⟨rfl, hb1⟩
          go_wp2
          go_ret
          exact ⟨ret_int (by rw [HD2.out]; rfl), bl_then hB1 (bl_then hB hb1 (Nat.le_refl _)) (Nat.le_refl _)⟩
      · skip
        have cq := Lib.hid (below_same (check3_any A l.length c bp wr ((K1.keep hB).cellv 3 rfl)))
        have cl : wr.cell? ⟨bl, 1, none⟩ = some _ := (F3.keep hB).cellv 1 rfl
        cases hv : (decide ((1 : Int) ≤ l.length) && decide ((l.length : Int) ≤ 24)) with
        | true =>
          have HD2 : Hid (M.checkOf M.primeP N pr pw l sp wt er = ((conds N t s l sp wt er).drop 2).all id) := Lib.hid (by
            rw [HD.out]; simp only [conds, List.drop_succ_cons, List.drop_zero, List.all_cons, List.all_nil, hv, id, Bool.true_and])
          rw [hv] at cq
          have gt : 1 ≤ 2 → 1 ≤ t := fun _ => g1 (by omega)
          have gl : 2 ≤ 2 → 1 ≤ l.length ∧ l.length ≤ 24 := fun _ => by simp at hv; omega
          clear HD hv g1 g2
          go_wp2_with fail
          refine cq.out.mono ?_
          rintro e w' ⟨rfl, hb1⟩
          go_wp2
          exact ⟨⟨2, rfl, by omega, bl_then hB hb1 (Nat.le_refl _), gt, gl, HD2⟩, by simp [intOf]⟩
        | false =>
          have HD2 : Hid (M.checkOf M.primeP N pr pw l sp wt er = false) := Lib.hid (by
            rw [HD.out]; simp only [conds, List.drop_succ_cons, List.drop_zero, List.all_cons, List.all_nil, hv, id, Bool.false_and])
          rw [hv] at cq
          clear HD hv g1 g2
          go_wp2_with fail
          refine cq.out.mono ?_
          rintro e w' ⟨rfl, hb1⟩
          go_wp2
          go_ret
          exact ⟨ret_int (by rw [HD2.out]; rfl), bl_then hB1 (bl_then hB hb1 (Nat.le_refl _)) (Nat.le_refl _)⟩
      · skip
        have cq := Lib.hid (below_same (check4_any N wt er bp wr ((K1.keep hB).cellv 0 rfl) ((K1.keep hB).cellv 5 rfl) ((K1.keep hB).cellv 6 rfl)))
        have cl : wr.cell? ⟨bl, 2, none⟩ = some _ := (F3.keep hB).cellv 2 rfl
        cases hv : (decide (1 ≤ wt) && decide (wt ≤ N) && decide (er ≤ 64)) with
        | true =>
          have HD2 : Hid (M.checkOf M.primeP N pr pw l sp wt er = ((conds N t s l sp wt er).drop 3).all id) := Lib.hid (by
            rw [HD.out]; simp only [conds, List.drop_succ_cons, List.drop_zero, List.all_cons, List.all_nil, hv, id, Bool.true_and])
          rw [hv] at cq
          have gt : 1 ≤ 3 → 1 ≤ t := fun _ => g1 (by omega)
          have gl : 2 ≤ 3 → 1 ≤ l.length ∧ l.length ≤ 24 := fun _ => g2 (by omega)
          clear HD hv g1 g2
          go_wp2_with fail
          refine cq.out.mono ?_
          rintro e w' ⟨rfl, hb1⟩
          go_wp2
          exact ⟨⟨3, rfl, by omega, bl_then hB hb1 (Nat.le_refl _), gt, gl, HD2⟩, by simp [intOf]⟩
        | false =>
          have HD2 : Hid (M.checkOf M.primeP N pr pw l sp wt er = false) := Lib.hid (by
            rw [HD.out]; simp only [conds, List.drop_succ_cons, List.drop_zero, List.all_cons, List.all_nil, hv, id, Bool.false_and])
          rw [hv] at cq
          clear HD hv g1 g2
          go_wp2_with fail
          refine cq.out.mono ?_
          rintro e w' ⟨rfl, hb1⟩
          go_wp2
          go_ret
          exact ⟨ret_int (by rw [HD2.out]; rfl), bl_then hB1 (bl_then hB hb1 (Nat.le_refl _)) (Nat.le_refl _)⟩
      · skip
        have cq := Lib.hid (check5_any sp s bp bf bs wr ((K1.keep hB).cellv 4 rfl) ((F2.keep hB).cellv 0 rfl) ((F1.keep hB).cellv 0 rfl) s0 s1 (HS.out (g1 (by omega))) sb)
        have cl : wr.cell? ⟨bl, 3, none⟩ = some _ := (F3.keep hB).cellv 3 rfl
        cases hv : qOf s sp with
        | true =>
          have HD2 : Hid (M.checkOf M.primeP N pr pw l sp wt er = ((conds N t s l sp wt er).drop 4).all id) := Lib.hid (by
            rw [HD.out]; simp only [conds, List.drop_succ_cons, List.drop_zero, List.all_cons, List.all_nil, hv, id, Bool.true_and])
          rw [hv] at cq
          have gt : 1 ≤ 4 → 1 ≤ t := fun _ => g1 (by omega)
          have gl : 2 ≤ 4 → 1 ≤ l.length ∧ l.length ≤ 24 := fun _ => g2 (by omega)
          clear HD hv g1 g2
          go_wp2_with fail
          refine cq.out.mono ?_
          rintro e w' ⟨rfl, hb1⟩
          go_wp2
          exact ⟨⟨4, rfl, by omega, bl_then hB hb1 (Nat.le_refl _), gt, gl, HD2⟩, by simp [intOf]⟩
        | false =>
          have HD2 : Hid (M.checkOf M.primeP N pr pw l sp wt er = false) := Lib.hid (by
            rw [HD.out]; simp only [conds, List.drop_succ_cons, List.drop_zero, List.all_cons, List.all_nil, hv, id, Bool.false_and])
          rw [hv] at cq
          clear HD hv g1 g2
          go_wp2_with fail
          refine cq.out.mono ?_
          rintro e w' ⟨rfl, hb1⟩
          go_wp2
          go_ret
          exact ⟨ret_int (by rw [HD2.out]; rfl), bl_then hB1 (bl_then hB hb1 (Nat.le_refl _)) (Nat.le_refl _)⟩
      · skip
        have cq := Lib.hid (check6_any A l c sp s bp bf bs wr ((HL.out.below hB1).below hB) hc hlen ((K1.keep hB).cellv 3 rfl) ((K1.keep hB).cellv 4 rfl) ((F2.keep hB).cellv 0 rfl) ((F1.keep hB).cellv 0 rfl) HB.out (HS.out (g1 (by omega))) sb)
        have cl : wr.cell? ⟨bl, 4, none⟩ = some _ := (F3.keep hB).cellv 4 rfl
        cases hv : (!(l.any fun q => decide (sp ≤ q) || !qOf s q)) with
        | true =>
          have HD2 : Hid (M.checkOf M.primeP N pr pw l sp wt er = ((conds N t s l sp wt er).drop 5).all id) := Lib.hid (by
            rw [HD.out]; simp only [conds, List.drop_succ_cons, List.drop_zero, List.all_cons, List.all_nil, hv, id, Bool.true_and])
          rw [hv] at cq
          have gt : 1 ≤ 5 → 1 ≤ t := fun _ => g1 (by omega)
          have gl : 2 ≤ 5 → 1 ≤ l.length ∧ l.length ≤ 24 := fun _ => g2 (by omega)
          clear HD hv g1 g2
          go_wp2_with fail
          refine cq.out.mono ?_
          rintro e w' ⟨rfl, hb1⟩
          go_wp2
          exact ⟨⟨5, rfl, by omega, bl_then hB hb1 (Nat.le_refl _), gt, gl, HD2⟩, by simp [intOf]⟩
        | false =>
          have HD2 : Hid (M.checkOf M.primeP N pr pw l sp wt er = false) := Lib.hid (by
            rw [HD.out]; simp only [conds, List.drop_succ_cons, List.drop_zero, List.all_cons, List.all_nil, hv, id, Bool.false_and])
          rw [hv] at cq
          clear HD hv g1 g2
          go_wp2_with fail
          refine cq.out.mono ?_
          rintro e w' ⟨rfl, hb1⟩
          go_wp2
          go_ret
          exact ⟨ret_int (by rw [HD2.out]; rfl), bl_then hB1 (bl_then hB hb1 (Nat.le_refl _)) (Nat.le_refl _)⟩
      · skip
        obtain ⟨ad, rfl⟩ : ∃ ad, A = some ad := by
          have h1 : 0 < l.length := (g2 (by omega)).1
          obtain ⟨ad, rfl, _⟩ := (HL.out).int h1
          exact ⟨ad, rfl⟩
        have cq := Lib.hid (check7_any ad l c bp wr ((HL.out.below hB1).below hB) (g2 (by omega)).1 (g2 (by omega)).2 ((K1.keep hB).cellv 3 rfl))
        have cl : wr.cell? ⟨bl, 5, none⟩ = some _ := (F3.keep hB).cellv 5 rfl
        cases hv : decide l.Nodup with
        | true =>
          have HD2 : Hid (M.checkOf M.primeP N pr pw l sp wt er = ((conds N t s l sp wt er).drop 6).all id) := Lib.hid (by
            rw [HD.out]; simp only [conds, List.drop_succ_cons, List.drop_zero, List.all_cons, List.all_nil, hv, id, Bool.true_and])
          rw [hv] at cq
          have gt : 1 ≤ 6 → 1 ≤ t := fun _ => g1 (by omega)
          have gl : 2 ≤ 6 → 1 ≤ l.length ∧ l.length ≤ 24 := fun _ => g2 (by omega)
          clear HD hv g1 g2
          go_wp2_with fail
          refine cq.out.mono ?_
          rintro e w' ⟨rfl, hb1⟩
          go_wp2
          exact ⟨⟨6, rfl, by omega, bl_then hB hb1 (Nat.le_refl _), gt, gl, HD2⟩, by simp [intOf]⟩
        | false =>
          have HD2 : Hid (M.checkOf M.primeP N pr pw l sp wt er = false) := Lib.hid (by
            rw [HD.out]; simp only [conds, List.drop_succ_cons, List.drop_zero, List.all_cons, List.all_nil, hv, id, Bool.false_and])
          rw [hv] at cq
          clear HD hv g1 g2
          go_wp2_with fail
          refine cq.out.mono ?_
          rintro e w' ⟨rfl, hb1⟩
          go_wp2
          go_ret
          exact ⟨ret_int (by rw [HD2.out]; rfl), bl_then hB1 (bl_then hB hb1 (Nat.le_refl _)) (Nat.le_refl _)⟩
      · have HD2 : Hid (M.checkOf M.primeP N pr pw l sp wt er = true) := Lib.hid (by rw [HD.out]; rfl)
        clear HD g1 g2
        go_wp2
        go_ret
        exact ⟨ret_int (by rw [HD2.out]; rfl), bl_then hB1 hB (Nat.le_refl _)⟩
end Go.Proofs.Ytidlfjaogjpokaa
