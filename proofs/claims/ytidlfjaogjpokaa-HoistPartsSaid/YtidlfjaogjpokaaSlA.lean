/- The walks of slices.IndexFunc, ContainsFunc, Clone at []uint32, and of Max and Min at []int64. -/
import Derived.Test.YtidlfjaogjpokaaParA
import Derived.Lib.SliceRun
namespace Go.Proofs.Ytidlfjaogjpokaa
open Go.RowKit

theorem info_u32 : (Try.prog.info? 22).map (fun i => (i.zero, i.size, i.bytes)) = some (some (.int .u32 0), 1, 4) := by kernel_rfl

/-- the first place at which p holds, from k on -/
theorem find_drop (p : Int → Bool) (l : List Int) (k : Nat) (hk : k < l.length) : (l.drop k).any p = (p l[k] || (l.drop (k + 1)).any p) := by
  rw [List.drop_eq_getElem_cons hk, List.any_cons]

theorem contains61_any (A : Option Addr) (l : List Int) (c : Nat) (sp s : Int) (b f g : Nat) (w : World) (hl : Rd w A (ints .u32 l)) (hc : l.length ≤ c) (hlen : l.length ≤ 100000)
    (hc4 : w.cell? ⟨b, 4, none⟩ = some (.int .u32 sp)) (hf : w.cell? ⟨f, 0, none⟩ = some (.func (.func 65) #[] #[.pointer (some ⟨g, 0, none⟩)]))
    (hg : w.cell? ⟨g, 0, none⟩ = some (.int .i64 s)) (hb : ∀ q ∈ l, 0 ≤ q ∧ q < 4294967296) (hs : 1 ≤ s) (hs' : s ≤ 9223372036854775807) :
    Calls Try.prog 84 #[.slice A l.length c, .func (.func 73) #[] #[.pointer (some ⟨b, 0, none⟩), .pointer (some ⟨f, 0, none⟩)]] w
      fun e w' => (∃ k : Int, e = .returned (.int .i64 k) ∧ decide (0 ≤ k) = l.any fun q => decide (sp ≤ q) || !qOf s q) ∧ Below w.heap.size w w' := by
  have HL := Lib.hid hl
  have HB := Lib.hid hb
  have H1 := Lib.hid (fun (w' : World) (h : Below w.heap.size w w') (q : Int) (hq : q ∈ l) => check61_any q sp s b f g w' ((h.cell (lt_of_cell hc4)).trans hc4) ((h.cell (lt_of_cell hf)).trans hf) ((h.cell (lt_of_cell hg)).trans hg) (hb q hq).1 (hb q hq).2 hs hs')
  clear hl hb hc4 hf hg
  go_enter Try.func84, Try.ntmps84
  go_wp2
  go_loopw [5, 8] (fun _ x wr => ∃ k : Nat, k ≤ l.length ∧ x = .int .i64 k ∧ Below w.heap.size w wr ∧ Hid ((l.any fun q => decide (sp ≤ q) || !qOf s q) = (l.drop k).any fun q => decide (sp ≤ q) || !qOf s q)) (fun _ x _ => l.length - (intOf x).toNat)
  case atStart => exact ⟨0, by omega, rfl, Below.refl _ _, Lib.hid rfl⟩
  case round =>
    obtain ⟨k, g1, rfl, hB, G2⟩ := hrel
    by_cases hlt : k < l.length
    · obtain ⟨ad, rfl, hcell⟩ := (HL.out.below hB).int hlt
      have hq := HB.out l[k] (List.getElem_mem _)
      have hcall := Lib.hid (H1.out wr hB l[k] (List.getElem_mem _))
      have G3 : Hid ((l.any fun q => decide (sp ≤ q) || !qOf s q) = ((decide (sp ≤ l[k]) || !qOf s l[k]) || (l.drop (k + 1)).any fun q => decide (sp ≤ q) || !qOf s q)) := Lib.hid (by rw [G2.out, find_drop _ _ _ hlt])
      clear G2
      by_cases hv : (decide (sp ≤ l[k]) || !qOf s l[k]) = true
      · rw [hv] at hcall G3
        have hr := Lib.hid G3.out
        clear hv G3
        go_wp2_with fail
        refine hcall.out.mono ?_
        rintro e w1 ⟨rfl, hb1⟩
        go_wp2
        go_ret
        exact ⟨⟨k, rfl, by rw [hr.out]; simp⟩, bl_then hB hb1 (Nat.le_refl _)⟩
      · replace hv : (decide (sp ≤ l[k]) || !qOf s l[k]) = false := by simpa using hv
        rw [hv, Bool.false_or] at G3
        rw [hv] at hcall
        have hr := Lib.hid G3.out
        clear hv G3
        go_wp2_with fail
        refine hcall.out.mono ?_
        rintro e w1 ⟨rfl, hb1⟩
        go_wp2
        exact ⟨⟨k + 1, by omega, by go_num, bl_then hB hb1 (Nat.le_refl _), hr⟩, by simp [intOf]; omega⟩
    · have hr : Hid ((l.any fun q => decide (sp ≤ q) || !qOf s q) = false) := Lib.hid (by rw [G2.out, List.drop_eq_nil_of_le (by omega)]; rfl)
      clear G2
      go_wp2
      go_ret
      exact ⟨⟨-1, rfl, by rw [hr.out]; rfl⟩, hB⟩

set_option maxRecDepth 100000 in
theorem clone_u32 (ad : Addr) (l : List Int) (c : Nat) (w : World) (hl : Rd w (some ad) (ints .u32 l)) (hlen : l.length ≤ 100000) :
    Calls Try.prog 75 #[.slice (some ad) l.length c] w fun e w' => ∃ v, e = .returned v ∧ w'.ownsRow w.heap.size 22 1 v l.length (ints .u32 l) ∧ Below w.heap.size w w' := by
  obtain ⟨i0, hi0, hz0, hz1, hz2⟩ := info_parts info_u32
  have hrd := Lib.hid hl
  clear hl
  have hnil := fun wx n c n' c' => Lib.run_eql_slice_nil (P := Try.prog) wx 23 22 (some ad) n c n' c' Try.underlying23
  go_enter Try.func75, Try.ntmps75
  go_wp2_with (at_builtin; refine wpList_append_any _ rfl (.tmp 5) (.tmp 6) _ rfl w.heap.size 22 i0 _ 1 4 Try.underlying23 hi0 hz0 hz1 hz2 rfl (by omega) (.slice (some ⟨w.heap.size, 0, none⟩) 0 0) 0 [] rfl ?h1 (w.alloc (.cells #[] 22)).heap.size (some ad) l.length c (ints .u32 l) rfl ?h2 ?h3 ?h4 ?h5 ?h6 ?_)
  case h1 => exact World.ownsRow_lit w #[] 0 (Nat.le_refl _) (by simp [maxLen]) rfl
  case h2 => exact (hrd.out.alloc _).reads (ints_len _ _).symm
  case h3 => exact one_ints _ _
  case h4 => simp only [maxLen]; omega
  case h5 => omega
  case h6 => simp
  intro v1 w1 hown1 hg1 hat1
  go_wp2
  go_ret
  refine ⟨v1, rfl, by simpa using hown1, ?_⟩
  exact ((Below.refl _ _).alloc (Nat.le_refl _) _).grown hg1 (by simp) (by simp [Value.ownBlock])

theorem contains_any (A : Option Addr) (l : List Int) (c : Nat) (sp s : Int) (b f g : Nat) (w : World) (hl : Rd w A (ints .u32 l)) (hc : l.length ≤ c) (hlen : l.length ≤ 100000)
    (hc4 : w.cell? ⟨b, 4, none⟩ = some (.int .u32 sp)) (hf : w.cell? ⟨f, 0, none⟩ = some (.func (.func 65) #[] #[.pointer (some ⟨g, 0, none⟩)]))
    (hg : w.cell? ⟨g, 0, none⟩ = some (.int .i64 s)) (hb : ∀ q ∈ l, 0 ≤ q ∧ q < 4294967296) (hs : 1 ≤ s) (hs' : s ≤ 9223372036854775807) :
    Calls Try.prog 72 #[.slice A l.length c, .func (.func 73) #[] #[.pointer (some ⟨b, 0, none⟩), .pointer (some ⟨f, 0, none⟩)]] w
      fun e w' => e = .returned (.bool (l.any fun q => decide (sp ≤ q) || !qOf s q)) ∧ Below w.heap.size w w' := by
  have H := Lib.hid (contains61_any A l c sp s b f g w hl hc hlen hc4 hf hg hb hs hs')
  clear hl hb hc4 hf hg
  go_enter Try.func72, Try.ntmps72
  go_wp2_with fail
  refine H.out.mono ?_
  rintro e w1 ⟨⟨k, rfl, hk⟩, hb1⟩
  have HK := Lib.hid hk
  clear hk
  go_wp2
  go_ret
  exact ⟨ret_bool HK.out, hb1⟩

/-- the greatest number of a list that begins with m -/
def maxGo (m : Int) : List Int → Int
  | [] => m
  | x :: l => maxGo (if m < x then x else m) l
def minGo (m : Int) : List Int → Int
  | [] => m
  | x :: l => minGo (if x < m then x else m) l
theorem maxGo_le (l : List Int) : ∀ m b : Int, maxGo m l ≤ b ↔ m ≤ b ∧ ∀ x ∈ l, x ≤ b := by
  induction l with
  | nil => intro m b; simp [maxGo]
  | cons x l ih => intro m b; simp only [maxGo, ih, List.mem_cons, forall_eq_or_imp]; split <;> constructor <;> (rintro ⟨h1, h2⟩; refine ⟨by omega, ?_⟩) <;> first | exact h2.2 | exact ⟨by omega, h2⟩
theorem minGo_ge (l : List Int) : ∀ m b : Int, b ≤ minGo m l ↔ b ≤ m ∧ ∀ x ∈ l, b ≤ x := by
  induction l with
  | nil => intro m b; simp [minGo]
  | cons x l ih => intro m b; simp only [minGo, ih, List.mem_cons, forall_eq_or_imp]; split <;> constructor <;> (rintro ⟨h1, h2⟩; refine ⟨by omega, ?_⟩) <;> first | exact h2.2 | exact ⟨by omega, h2⟩

theorem max_i64 (A : Option Addr) (x0 : Int) (l : List Int) (c : Nat) (w : World) (hl : Rd w A (ints .i64 (x0 :: l))) (hlen : l.length ≤ 100000) :
    Calls Try.prog 49 #[.slice A (l.length + 1) c] w fun e w' => e = .returned (.int .i64 (maxGo x0 l)) ∧ w = w' := by
  obtain ⟨b, o, rfl, h0⟩ := hl.intx (i := 0) (by simp)
  have HL := Lib.hid hl
  have h0' : w.cell? ⟨b, o, none⟩ = some (.int .i64 x0) := h0
  have hd : decide ((l.length : Int) + 1 < 1) = false := decide_eq_false (by omega)
  clear hl h0
  go_enter Try.func49, Try.ntmps49
  go_wp2
  go_loop [3, 4] (fun m x => ∃ (k : Nat) (z : Int), k ≤ l.length ∧ x = .int .i64 (k + 1) ∧ m = .int .i64 z ∧ Hid (maxGo x0 l = maxGo z (l.drop k))) (fun _ x => l.length + 2 - (intOf x).toNat)
  case atStart => exact ⟨0, x0, by omega, rfl, rfl, Lib.hid rfl⟩
  case round =>
    obtain ⟨k, z, g1, rfl, rfl, G2⟩ := hrel
    by_cases hlt : k < l.length
    · have hcell := HL.out.intb (i := k + 1) (by simp; omega)
      have hc' : w.cell? ⟨b, o + (k + 1), none⟩ = some (.int .i64 l[k]) := by simpa using hcell
      have G3 : Hid (maxGo x0 l = maxGo (if z < l[k] then l[k] else z) (l.drop (k + 1))) := Lib.hid (by rw [G2.out, List.drop_eq_getElem_cons hlt, maxGo])
      clear hcell G2
      go_wp2
      exact ⟨⟨k + 1, _, by omega, by go_num, rfl, G3⟩, by simp [intOf]; omega⟩
    · have hr : Hid (maxGo x0 l = z) := Lib.hid (by rw [G2.out, List.drop_eq_nil_of_le (by omega)]; rfl)
      clear G2
      go_wp2
      go_ret
      exact ⟨ret_int hr.out.symm, rfl⟩

theorem min_i64 (A : Option Addr) (x0 : Int) (l : List Int) (c : Nat) (w : World) (hl : Rd w A (ints .i64 (x0 :: l))) (hlen : l.length ≤ 100000) :
    Calls Try.prog 50 #[.slice A (l.length + 1) c] w fun e w' => e = .returned (.int .i64 (minGo x0 l)) ∧ w = w' := by
  obtain ⟨b, o, rfl, h0⟩ := hl.intx (i := 0) (by simp)
  have HL := Lib.hid hl
  have h0' : w.cell? ⟨b, o, none⟩ = some (.int .i64 x0) := h0
  have hd : decide ((l.length : Int) + 1 < 1) = false := decide_eq_false (by omega)
  clear hl h0
  go_enter Try.func50, Try.ntmps50
  go_wp2
  go_loop [3, 4] (fun m x => ∃ (k : Nat) (z : Int), k ≤ l.length ∧ x = .int .i64 (k + 1) ∧ m = .int .i64 z ∧ Hid (minGo x0 l = minGo z (l.drop k))) (fun _ x => l.length + 2 - (intOf x).toNat)
  case atStart => exact ⟨0, x0, by omega, rfl, rfl, Lib.hid rfl⟩
  case round =>
    obtain ⟨k, z, g1, rfl, rfl, G2⟩ := hrel
    by_cases hlt : k < l.length
    · have hcell := HL.out.intb (i := k + 1) (by simp; omega)
      have hc' : w.cell? ⟨b, o + (k + 1), none⟩ = some (.int .i64 l[k]) := by simpa using hcell
      have G3 : Hid (minGo x0 l = minGo (if l[k] < z then l[k] else z) (l.drop (k + 1))) := Lib.hid (by rw [G2.out, List.drop_eq_getElem_cons hlt, minGo])
      clear hcell G2
      go_wp2
      exact ⟨⟨k + 1, _, by omega, by go_num, rfl, G3⟩, by simp [intOf]; omega⟩
    · have hr : Hid (minGo x0 l = z) := Lib.hid (by rw [G2.out, List.drop_eq_nil_of_le (by omega)]; rfl)
      clear G2
      go_wp2
      go_ret
      exact ⟨ret_int hr.out.symm, rfl⟩


/-- is a list a vector of so many balanced numbers? -/
def vecB (n t : Int) (l : List Int) : Bool := decide ((l.length : Int) = n) && l.all fun x => decide (-((t - 1) / 2) ≤ x) && decide (x ≤ (t - 1) / 2)

set_option maxRecDepth 100000 in
theorem vector_any (N pr pw sp wt er t : Int) (Ch : Option Addr) (n c : Nat) (A : Option Addr) (l : List Int) (c' : Nat) (w : World) (hl : Rd w A (ints .i64 l)) (hlen : l.length ≤ 100000) (hN : 1 ≤ N) (t1 : 1 ≤ t) (t2 : t ≤ 2147483647) :
    Calls Try.prog 37 #[.agg #[.int .i64 N, .int .u32 pr, .int .i64 pw, .slice Ch n c, .int .u32 sp, .int .i64 wt, .int .u32 er], .int .i64 t, .slice A l.length c'] w
      fun e w' => e = .returned (.bool (vecB N t l)) ∧ Below w.heap.size w w' := by
  rcases l with _ | ⟨x0, l⟩
  · have hr : Hid (vecB N t [] = false) := Lib.hid (by simp [vecB]; omega)
    have hq : ((0 : Int) == N) = false := by simp; omega
    clear hl
    go_enter Try.func37, Try.ntmps37
    go_wp2
    all_goals first
      | (exfalso; omega)
      | (go_ret; exact ⟨ret_bool hr.out.symm, (Below.refl _ _).alloc (Nat.le_refl _) _⟩)
  · have HL := Lib.hid hl
    have hx := maxGo_le l x0 ((t - 1) / 2)
    have hn := minGo_ge l x0 (-((t - 1) / 2))
    have hv : vecB N t (x0 :: l) = (decide ((l.length : Int) + 1 = N) && decide (maxGo x0 l ≤ (t - 1) / 2) && decide (-((t - 1) / 2) ≤ minGo x0 l)) := by
      rw [Bool.eq_iff_iff]
      simp only [vecB, List.length_cons, List.all_cons, Bool.and_eq_true, decide_eq_true_eq, List.all_eq_true, hx, hn]
      constructor
      · rintro ⟨h1, ⟨h2, h3⟩, h4⟩
        exact ⟨⟨by omega, h3, fun x hx => (h4 x hx).2⟩, h2, fun x hx => (h4 x hx).1⟩
      · rintro ⟨⟨h1, h2, h3⟩, h4, h5⟩
        exact ⟨by omega, ⟨h4, h2⟩, fun x hx => ⟨h5 x hx, h3 x hx⟩⟩
    have HV := Lib.hid hv
    clear hl hv hx hn
    have hdiv : (-(t - 1)).tdiv 2 = -((t - 1) / 2) := by rw [Int.neg_tdiv, Int.tdiv_eq_ediv_of_nonneg (by omega)]
    go_enter Try.func37, Try.ntmps37
    go_wp2_with (first
      | (go_at_call 49; refine (max_i64 A x0 l c' _ (HL.out.alloc _) (by simp at hlen; omega)).mono ?_; rintro e w' ⟨rfl, rfl⟩)
      | (go_at_call 50; refine (min_i64 A x0 l c' _ (HL.out.alloc _) (by simp at hlen; omega)).mono ?_; rintro e w' ⟨rfl, rfl⟩))
    all_goals
      go_ret
      refine ⟨ret_bool ?_, (Below.refl _ _).alloc (Nat.le_refl _) _⟩
      rw [HV.out]
      first
        | (simp [*]; done)
        | (rw [decide_eq_false (show ¬ maxGo x0 l ≤ (t - 1) / 2 by omega)]; simp)
end Go.Proofs.Ytidlfjaogjpokaa
