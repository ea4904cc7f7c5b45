/- The walks of the reference of layer 12 (params). -/
import Derived.Test.YtidlfjaogjpokaaRefA
namespace Go.Proofs.Ytidlfjaogjpokaa
open Go.RowKit

theorem rdim_any (n : Int) (w : World) :
    Calls Try.prog 20 #[.int .i64 n] w fun r w' => r = .returned (.bool (M.dimB n)) ∧ w = w' := by
  go_enter Try.func20, Try.ntmps20
  go_wp2
  all_goals
    go_ret
    exact ⟨ret_bool (by simp [M.dimB, *]), rfl⟩

theorem rgood_any (n t q : Int) (w : World) (hn : 4 ≤ n) (hn' : n ≤ 32) (ht : 1 ≤ t) (ht' : t ≤ 2147483647) (h0 : 0 ≤ q) (h1 : q < 4294967296) :
    Calls Try.prog 61 #[.int .i64 n, .int .i64 t, .int .u32 q] w fun r w' => r = .returned (.bool (M.goodOf M.primeR n t q)) ∧ w = w' := by
  have h2 : 2 * n * t ≤ 64 * 2147483647 := Int.mul_le_mul (by omega) ht' (by omega) (by omega)
  have h3 : 8 ≤ 2 * n * t := by
    have : 8 * 1 ≤ 2 * n * t := Int.mul_le_mul (by omega) ht (by omega) (by omega)
    omega
  go_enter Try.func61, Try.ntmps61
  go_wp2_with (go_at_call 34; refine (rprime_any _ _ h0 h1).mono ?_; rintro e w' ⟨rfl, rfl⟩)
  all_goals
    go_ret
    exact ⟨ret_bool (by unfold M.goodOf; first | (simp [*]; done) | (simp [*]; omega)), rfl⟩

theorem rplain_any (n p r : Int) (w : World) (hn : 4 ≤ n) (hn' : n ≤ 32) (h0 : 0 ≤ p) (h1 : p < 4294967296) (hr : -9223372036854775808 ≤ r) (hr' : r ≤ 9223372036854775807) :
    Calls Try.prog 21 #[.int .i64 n, .int .u32 p, .int .i64 r] w fun e w' => e = .returned (.int .i64 (M.plainOf M.primeR n p r)) ∧ w = w' := by
  go_enter Try.func21, Try.ntmps21
  go_wp2_with (go_at_call 34; refine (rprime_any _ _ h0 h1).mono ?_; rintro e w' ⟨rfl, rfl⟩)
  any_goals
    go_ret
    exact ⟨ret_int (by rw [M.plainOf, if_pos (by simp [*])]), rfl⟩
  have p3 : 3 ≤ p := by assumption
  have p4 : p < 65536 := by assumption
  have r1 : 1 ≤ r := by assumption
  have hq : M.primeR p = true := by assumption
  have hm : p % (2 * n) = 1 := by assumption
  have HE : Hid (M.plainOf M.primeR n p r = M.plainGo p r.toNat 1) := Lib.hid (by rw [M.plainOf, if_neg (by rw [hq, hm]; simp; omega)])
  clear hq hm
  go_loop [7, 8] (fun x y => ∃ (k : Nat) (t : Int), (k : Int) ≤ r ∧ x = .int .i64 t ∧ y = .int .i64 k ∧ 1 ≤ t ∧ t ≤ 2147483647 ∧ Hid (M.plainOf M.primeR n p r = M.plainGo p (r.toNat - k) t)) (fun _ y => (r - intOf y).toNat)
  case atStart => exact ⟨0, 1, by omega, rfl, rfl, by omega, by omega, HE⟩
  case round =>
    obtain ⟨k, t, g1, rfl, rfl, g2, g3, G4⟩ := hrel
    clear HE
    have b1 : t * p ≤ 2147483647 * 65535 := Int.mul_le_mul g3 (by omega) (by omega) (by omega)
    have b2 : 1 * 3 ≤ t * p := Int.mul_le_mul g2 p3 (by omega) (by omega)
    by_cases hlt : (k : Int) < r
    · have G5 : Hid (M.plainOf M.primeR n p r = if t * p > 2147483647 then 0 else M.plainGo p (r.toNat - (k + 1)) (t * p)) := Lib.hid (by rw [G4.out, show r.toNat - k = (r.toNat - (k + 1)) + 1 from by omega, M.plainGo])
      clear G4
      by_cases hbig : 2147483647 < t * p
      · have G6 := Lib.hid (G5.out.trans (if_pos hbig))
        clear G5
        go_wp2
        go_ret
        exact ⟨ret_int G6.out.symm, rfl⟩
      · have G6 := Lib.hid (G5.out.trans (if_neg hbig))
        clear G5
        go_wp2
        exact ⟨⟨k + 1, _, by omega, rfl, by go_num, by omega, by omega, G6⟩, by simp [intOf]; omega⟩
    · have G6 : Hid (M.plainOf M.primeR n p r = t) := Lib.hid (by rw [G4.out, show r.toNat - k = 0 from by omega]; rfl)
      clear G4
      go_wp2
      go_ret
      exact ⟨ret_int G6.out.symm, rfl⟩

set_option maxRecDepth 100000 in
set_option maxHeartbeats 1000000 in
theorem rcheck_any (N pr pw sp wt er : Int) (A : Option Addr) (l : List Int) (c : Nat) (w : World) (hl : Rd w A (ints .u32 l)) (hc : l.length ≤ c) (hb : ∀ q ∈ l, 0 ≤ q ∧ q < 4294967296)
    (p0 : 0 ≤ pr) (p1 : pr < 4294967296) (r0 : -9223372036854775808 ≤ pw) (r1 : pw ≤ 9223372036854775807) (s0 : 0 ≤ sp) (s1 : sp < 4294967296) (e0 : 0 ≤ er) (hlen : l.length ≤ 100000) :
    Calls Try.prog 44 #[.agg #[.int .i64 N, .int .u32 pr, .int .i64 pw, .slice A l.length c, .int .u32 sp, .int .i64 wt, .int .u32 er]] w
      fun e w' => e = .returned (.int .i64 (M.errno (M.checkOf M.primeR N pr pw l sp wt er))) ∧ Below w.heap.size w w' := by
  have hp := M.plainOf_le M.primeR N pr pw
  have HL := Lib.hid hl
  have HB := Lib.hid hb
  clear hl hb
  go_enter Try.func44, Try.ntmps44
  go_wp2_with (first
    | (go_at_call 20; refine (rdim_any _ _).mono ?_; rintro e w' ⟨rfl, rfl⟩)
    | (go_at_call 21; refine (rplain_any _ _ _ _ (by have := M.dimB_le N ‹_›; omega) (by have := M.dimB_le N ‹_›; omega) p0 p1 r0 r1).mono ?_; rintro e w' ⟨rfl, rfl⟩)
    | (go_at_call 61; refine (rgood_any _ _ _ _ (by have := M.dimB_le N ‹_›; omega) (by have := M.dimB_le N ‹_›; omega) (by omega) (by omega) s0 s1).mono ?_; rintro e w' ⟨rfl, rfl⟩))
  any_goals
    go_ret
    exact ⟨ret_int (by rw [M.checkOf_no (by simp_all)]; rfl), (Below.refl _ _).alloc (Nat.le_refl _) _⟩
  have hd : M.dimB N = true := by assumption
  have t0 : ¬ M.plainOf M.primeR N pr pw = 0 := by assumption
  have hg : (!M.goodOf M.primeR N (M.plainOf M.primeR N pr pw) sp) = false := by assumption
  have HE : Hid (M.checkOf M.primeR N pr pw l sp wt er = M.chainGo (M.goodOf M.primeR N (M.plainOf M.primeR N pr pw)) sp [] l) := Lib.hid (by
    exact M.checkOf_yes hd (by omega) (by omega) (by omega) (by omega) (by omega) t0 (by simpa using hg))
  have hN := M.dimB_le N hd
  have hN1 : 4 ≤ N := by omega
  have hN2 : N ≤ 32 := by omega
  have l24 : (l.length : Int) ≤ 24 := by assumption
  have t1 : 1 ≤ M.plainOf M.primeR N pr pw := by omega
  have hgt : M.goodOf M.primeR N (M.plainOf M.primeR N pr pw) sp = true := by simpa using hg
  have hde : decide (64 < er) = false := decide_eq_false (by omega)
  simp only [hgt, hde, Bool.not_true]
  clear hd hg hN t0 hgt hde
  generalize M.plainOf M.primeR N pr pw = t at HE hp t1 ⊢
  have HK : Blk (w.alloc (.cells #[.int .i64 N, .int .u32 pr, .int .i64 pw, .slice A l.length c, .int .u32 sp, .int .i64 wt, .int .u32 er] 25)) w.heap.size 25 #[.int .i64 N, .int .u32 pr, .int .i64 pw, .slice A l.length c, .int .u32 sp, .int .i64 wt, .int .u32 er] := Blk.new _ _ _
  go_loopw [4, 5] (fun x _ wr => ∃ (i : Nat), i ≤ l.length ∧ x = .int .i64 i ∧ Blk wr w.heap.size 25 #[.int .i64 N, .int .u32 pr, .int .i64 pw, .slice A l.length c, .int .u32 sp, .int .i64 wt, .int .u32 er] ∧ Below w.heap.size w wr ∧ Hid (M.checkOf M.primeR N pr pw l sp wt er = M.chainGo (M.goodOf M.primeR N t) sp (l.take i) (l.drop i))) (fun x _ _ => l.length - (intOf x).toNat)
  case atStart => exact ⟨0, by omega, rfl, HK, (Below.refl _ _).alloc (Nat.le_refl _) _, HE⟩
  case round =>
    obtain ⟨i, g1, rfl, hK, hBw, G2⟩ := hrel
    clear HE HK
    have c0 : wr.cell? ⟨w.heap.size, 0, none⟩ = some (.int .i64 N) := hK.cellv 0 rfl
    have c3 : wr.cell? ⟨w.heap.size, 3, none⟩ = some (.slice A l.length c) := hK.cellv 3 rfl
    have c4 : wr.cell? ⟨w.heap.size, 4, none⟩ = some (.int .u32 sp) := hK.cellv 4 rfl
    by_cases hlt : i < l.length
    · obtain ⟨ad, rfl, hcell⟩ := (HL.out.below hBw).int hlt
      have hq := HB.out l[i] (List.getElem_mem _)
      have G3 : Hid (M.checkOf M.primeR N pr pw l sp wt er = (M.goodOf M.primeR N t l[i] && decide (l[i] < sp) && !((l.take i).contains l[i]) && M.chainGo (M.goodOf M.primeR N t) sp (l.take (i + 1)) (l.drop (i + 1)))) := Lib.hid (by
        rw [G2.out, List.drop_eq_getElem_cons hlt, M.chainGo, List.take_succ_eq_append_getElem hlt])
      clear G2
      by_cases hgood : M.goodOf M.primeR N t l[i] = true
      · by_cases hsp : l[i] < sp
        · go_wp2
          go_quiet ((go_at_call 61; exact quiet_of_eq (rgood_any _ _ _ _ hN1 hN2 t1 (by omega) (by omega) (by omega))))
          simp only [hgood]
          go_wp2
          obtain ⟨wo, rfl⟩ : ∃ wo : World, wo = wr := ⟨_, rfl⟩
          go_loopw [5] (fun x wr' => ∃ (k : Nat), k ≤ i ∧ x = .int .i64 k ∧ Blk wr' w.heap.size 25 #[.int .i64 N, .int .u32 pr, .int .i64 pw, .slice (some ad) l.length c, .int .u32 sp, .int .i64 wt, .int .u32 er] ∧ Below w.heap.size w wr' ∧ Hid ((l.take k).contains l[i] = false)) (fun x _ => i - (intOf x).toNat)
          case atStart => exact ⟨0, by omega, rfl, hK, bl_drewN hBw _, Lib.hid (by simp)⟩
          case round =>
            obtain ⟨k, g2, rfl, hK', hBw', G4⟩ := hrel
            have d3 : wr.cell? ⟨w.heap.size, 3, none⟩ = some (.slice (some ad) l.length c) := hK'.cellv 3 rfl
            by_cases hlt' : k < i
            · have hk : k < l.length := by omega
              obtain ⟨ad', hA, e1⟩ := (HL.out.below hBw').int hk
              obtain rfl : ad = ad' := by injection hA
              obtain ⟨ad', hA, e2⟩ := (HL.out.below hBw').int hlt
              obtain rfl : ad = ad' := by injection hA
              clear hA
              by_cases he : l[k] = l[i]
              · have hr : Hid (M.checkOf M.primeR N pr pw l sp wt er = false) := Lib.hid (by
                  rw [G3.out]
                  have hm : l[i] ∈ l.take i := by rw [← he]; exact List.mem_take_iff_getElem.2 ⟨k, by omega, rfl⟩
                  simp [hm])
                have hq' : (l[k] == l[i]) = true := by simpa using he
                clear he G3 G4
                go_wp2
                go_quiet (fail)
                go_wp2
                go_ret
                exact ⟨ret_int (by rw [hr.out]; rfl), bl_drewN hBw' _⟩
              · have G5 : Hid ((l.take (k + 1)).contains l[i] = false) := Lib.hid (by
                  rw [List.take_succ_eq_append_getElem hk]
                  have h1 := G4.out
                  simp only [List.contains_eq_mem, decide_eq_false_iff_not] at h1 ⊢
                  simp only [List.mem_append, List.mem_singleton, not_or]
                  exact ⟨h1, fun h => he h.symm⟩)
                have hq' : (l[k] == l[i]) = false := by simpa using he
                clear he G4
                go_wp2
                go_quiet (fail)
                go_wp2
                refine ⟨?_, by simp [intOf]; omega⟩
                exact ⟨k + 1, by omega, by go_num, hK', bl_drewN hBw' _, G5⟩
            · have G5 : Hid (M.checkOf M.primeR N pr pw l sp wt er = M.chainGo (M.goodOf M.primeR N t) sp (l.take (i + 1)) (l.drop (i + 1))) := Lib.hid (by
                have h1 := G4.out
                rw [show k = i from by omega] at h1
                rw [G3.out, h1, hgood]; simp [hsp])
              clear G4 G3
              go_wp2
              exact ⟨⟨i + 1, by omega, by go_num, hK', hBw', G5⟩, by simp [intOf]; omega⟩
        · have hr : Hid (M.checkOf M.primeR N pr pw l sp wt er = false) := Lib.hid (by rw [G3.out]; simp [hsp])
          clear G3
          go_wp2
          go_quiet ((go_at_call 61; exact quiet_of_eq (rgood_any _ _ _ _ hN1 hN2 t1 (by omega) (by omega) (by omega))))
          go_wp2
          go_ret
          exact ⟨ret_int (by rw [hr.out]; rfl), bl_drewN hBw _⟩
      · have hr : Hid (M.checkOf M.primeR N pr pw l sp wt er = false) := Lib.hid (by rw [G3.out]; simp [hgood])
        replace hgood : M.goodOf M.primeR N t l[i] = false := by simpa using hgood
        clear G3
        go_wp2
        go_quiet ((go_at_call 61; exact quiet_of_eq (rgood_any _ _ _ _ hN1 hN2 t1 (by omega) (by omega) (by omega))))
        go_wp2
        go_ret
        exact ⟨ret_int (by rw [hr.out]; rfl), bl_drewN hBw _⟩
    · have hr : Hid (M.checkOf M.primeR N pr pw l sp wt er = true) := Lib.hid (by rw [G2.out, show i = l.length from by omega, List.drop_length]; rfl)
      clear G2
      go_wp2
      go_ret
      exact ⟨ret_int (by rw [hr.out]; rfl), hBw⟩

theorem checkOf_dim {prime : Int → Bool} {N pr pw : Int} {ch : List Int} {sp wt er : Int} (hk : M.checkOf prime N pr pw ch sp wt er = true) : M.dimB N = true := by
  rcases h : M.dimB N with _ | _
  · rw [M.checkOf_no (Or.inl h)] at hk; simp at hk
  · rfl
theorem checkOf_N {prime : Int → Bool} {N pr pw : Int} {ch : List Int} {sp wt er : Int} (hk : M.checkOf prime N pr pw ch sp wt er = true) : 4 ≤ N ∧ N ≤ 32 := by
  have := M.dimB_le N (checkOf_dim hk)
  omega

set_option maxRecDepth 100000 in
theorem rmodulus_ok (N pr pw sp wt er x : Int) (A : Option Addr) (l : List Int) (c : Nat) (w : World) (hl : Rd w A (ints .u32 l)) (hc : l.length ≤ c) (hb : ∀ q ∈ l, 0 ≤ q ∧ q < 4294967296)
    (p0 : 0 ≤ pr) (p1 : pr < 4294967296) (r0 : -9223372036854775808 ≤ pw) (r1 : pw ≤ 9223372036854775807) (s0 : 0 ≤ sp) (s1 : sp < 4294967296) (e0 : 0 ≤ er) (hlen : l.length ≤ 100000)
    (hk : M.checkOf M.primeR N pr pw l sp wt er = true) (x1 : 1 ≤ x) (x2 : x ≤ pw) :
    Calls Try.prog 30 #[.agg #[.int .i64 N, .int .u32 pr, .int .i64 pw, .slice A l.length c, .int .u32 sp, .int .i64 wt, .int .u32 er], .int .i64 x] w
      fun e w' => e = .returned (.tuple #[.int .i64 (M.plainOf M.primeR N pr x), .int .i64 0]) ∧ Below w.heap.size w w' := by
  have HC1 := Lib.hid (rcheck_any N pr pw sp wt er A l c _ (hl.alloc (.cells #[.int .i64 N, .int .u32 pr, .int .i64 pw, .slice A l.length c, .int .u32 sp, .int .i64 wt, .int .u32 er] 25)) hc hb p0 p1 r0 r1 s0 s1 e0 hlen)
  have hB := (Below.refl w.heap.size w).alloc (Nat.le_refl _) (.cells #[.int .i64 N, .int .u32 pr, .int .i64 pw, .slice A l.length c, .int .u32 sp, .int .i64 wt, .int .u32 er] 25)
  clear hl hb
  have hN := checkOf_N hk
  rw [hk] at HC1
  clear hk
  go_enter Try.func30, Try.ntmps30
  go_wp2_with fail
  refine HC1.out.mono ?_
  rintro e w1 ⟨rfl, hb⟩
  obtain ⟨hcc, hcf⟩ := bcell hb
  have hB1 := bl_then hB hb (Nat.le_refl _)
  simp only [M.errno, if_true]
  go_wp2_with (go_at_call 21; refine (rplain_any _ _ _ _ hN.1 hN.2 p0 p1 (by omega) (by omega)).mono ?_; rintro e w' ⟨rfl, rfl⟩)
  all_goals first
    | (exfalso; omega)
    | (go_ret2; exact ⟨rfl, hB1⟩)

set_option maxRecDepth 100000 in
theorem rmodulus_no (N pr pw sp wt er x : Int) (A : Option Addr) (l : List Int) (c : Nat) (w : World) (hl : Rd w A (ints .u32 l)) (hc : l.length ≤ c) (hb : ∀ q ∈ l, 0 ≤ q ∧ q < 4294967296)
    (p0 : 0 ≤ pr) (p1 : pr < 4294967296) (r0 : -9223372036854775808 ≤ pw) (r1 : pw ≤ 9223372036854775807) (s0 : 0 ≤ sp) (s1 : sp < 4294967296) (e0 : 0 ≤ er) (hlen : l.length ≤ 100000)
    (hk : ¬ (M.checkOf M.primeR N pr pw l sp wt er = true ∧ 1 ≤ x ∧ x ≤ pw)) :
    Calls Try.prog 30 #[.agg #[.int .i64 N, .int .u32 pr, .int .i64 pw, .slice A l.length c, .int .u32 sp, .int .i64 wt, .int .u32 er], .int .i64 x] w
      fun e w' => e = .returned (.tuple #[.int .i64 0, .int .i64 2]) ∧ Below w.heap.size w w' := by
  have HC1 := Lib.hid (rcheck_any N pr pw sp wt er A l c _ (hl.alloc (.cells #[.int .i64 N, .int .u32 pr, .int .i64 pw, .slice A l.length c, .int .u32 sp, .int .i64 wt, .int .u32 er] 25)) hc hb p0 p1 r0 r1 s0 s1 e0 hlen)
  have hB := (Below.refl w.heap.size w).alloc (Nat.le_refl _) (.cells #[.int .i64 N, .int .u32 pr, .int .i64 pw, .slice A l.length c, .int .u32 sp, .int .i64 wt, .int .u32 er] 25)
  clear hl hb
  by_cases h : M.checkOf M.primeR N pr pw l sp wt er = true
  · have hx : x < 1 ∨ pw < x := by
      by_cases h1 : 1 ≤ x
      · right
        rcases Int.lt_or_le pw x with h2 | h2
        · exact h2
        · exact absurd ⟨h, h1, h2⟩ hk
      · left; omega
    rw [h] at HC1
    clear hk h
    go_enter Try.func30, Try.ntmps30
    go_wp2_with fail
    refine HC1.out.mono ?_
    rintro e w1 ⟨rfl, hb⟩
    obtain ⟨hcc, hcf⟩ := bcell hb
    have hB1 := bl_then hB hb (Nat.le_refl _)
    simp only [M.errno, if_true]
    rcases hx with hx | hx
    all_goals
      go_wp2
      all_goals first
        | (exfalso; omega)
        | (go_ret2; exact ⟨rfl, hB1⟩)
  · replace h : M.checkOf M.primeR N pr pw l sp wt er = false := by simpa using h
    rw [h] at HC1
    clear hk h
    go_enter Try.func30, Try.ntmps30
    go_wp2_with fail
    refine HC1.out.mono ?_
    rintro e w1 ⟨rfl, hb⟩
    obtain ⟨hcc, hcf⟩ := bcell hb
    have hB1 := bl_then hB hb (Nat.le_refl _)
    simp only [M.errno]
    go_wp2
    go_ret2
    exact ⟨rfl, hB1⟩
end Go.Proofs.Ytidlfjaogjpokaa
