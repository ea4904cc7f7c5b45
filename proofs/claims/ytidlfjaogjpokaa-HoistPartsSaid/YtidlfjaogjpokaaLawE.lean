/- What the law shows at concrete values. -/
import Derived.Test.YtidlfjaogjpokaaLawD
namespace Go.Proofs.Ytidlfjaogjpokaa
open Go.RowKit

theorem rws_nil (w : World) (A : Option Addr) : Rws w A [] := ⟨Rd.nil _ _, by simp⟩
theorem rd_blk {w : World} {g : Nat} {t : TypeId} {cs : Array Value} (h : Blk w g t cs) (xs : List Value) (hx : cs.toList = xs) : Rd w (some ⟨g, 0, none⟩) xs := by
  intro k u hu
  refine ⟨_, rfl, ?_⟩
  have e1 : (⟨g, 0, none⟩ : Addr).add k = ⟨g, k, none⟩ := by unfold Addr.add; split <;> simp_all
  rw [e1]
  refine h.cellv k ?_
  rw [← Array.getElem?_toList, hx]
  exact hu
theorem gE_shown : gE M.primeP 8 17 1 [2147477809] 2147483249 4 2 1 [] exN [4] = 0 := by decide +kernel
theorem gE_empty : gE M.primeP 8 17 1 [2147477809] 2147483249 4 2 0 [] [] [] = 2 := by decide +kernel
theorem grp_shown : (grpOf exN).map (·.2) = [[1, 3], [4]] := by decide +kernel
theorem exN_ops : ∀ x ∈ exN, -9223372036854775808 ≤ x.1 ∧ x.1 ≤ 9223372036854775807 := by decide
theorem groups_shown (A : Option Addr) (c : Nat) (AN AO : Option Addr) (w : World) (hl : Rd w A (ints .u32 [2147477809])) (hc : 1 ≤ c) (hN : Nds w AN exN) (hO : Rd w AO (ints .i64 [4])) :
    Calls Try.prog 6 #[.agg #[.int .i64 8, .int .u32 17, .int .i64 1, .slice A 1 c, .int .u32 2147483249, .int .i64 4, .int .u32 2], .agg #[.int .i64 1, .slice none 0 0, .slice AN 6 6, .slice AO 1 1]] w (GroupsPost w exN) :=
  groups_ok 8 17 1 2147483249 4 2 A [2147477809] c 1 none [] 0 AN exN 6 AO [4] 1 w hl hc (by simp) (by omega) (by omega) (by omega) (by omega) (by omega) (by omega) (by simp) (rws_nil _ _) hN hO (by simp) (by simp) (by simp [exN]) (by simp) exN_ops gE_shown
theorem saved_shown (A : Option Addr) (c : Nat) (AN AO : Option Addr) (w : World) (hl : Rd w A (ints .u32 [2147477809])) (hc : 1 ≤ c) (hN : Nds w AN exN) (hO : Rd w AO (ints .i64 [4])) :
    Calls Try.prog 10 #[.agg #[.int .i64 8, .int .u32 17, .int .i64 1, .slice A 1 c, .int .u32 2147483249, .int .i64 4, .int .u32 2], .agg #[.int .i64 1, .slice none 0 0, .slice AN 6 6, .slice AO 1 1]] w
      fun e w' => e = .returned (.tuple #[.int .i64 1, .int .i64 0]) ∧ Below w.heap.size w w' := by
  have := saved_ok 8 17 1 2147483249 4 2 A [2147477809] c 1 none [] 0 AN exN 6 AO [4] 1 w hl hc (by simp) (by omega) (by omega) (by omega) (by omega) (by omega) (by omega) (by simp) (rws_nil _ _) hN hO (by simp) (by simp) (by simp [exN]) (by simp) exN_ops gE_shown
  rw [grp_shown] at this
  exact this
theorem groups_empty (A : Option Addr) (c : Nat) (w : World) (hl : Rd w A (ints .u32 [2147477809])) (hc : 1 ≤ c) :
    Calls Try.prog 6 #[.agg #[.int .i64 8, .int .u32 17, .int .i64 1, .slice A 1 c, .int .u32 2147483249, .int .i64 4, .int .u32 2], .agg #[.int .i64 0, .slice none 0 0, .slice none 0 0, .slice none 0 0]] w
      fun e w' => e = .returned (.tuple #[.slice none 0 0, .int .i64 2]) ∧ Below w.heap.size w w' :=
  groups_err 8 17 1 2147483249 4 2 A [2147477809] c 0 none [] 0 none [] 0 none [] 0 w hl hc (by simp) (by omega) (by omega) (by omega) (by omega) (by omega) (by omega) (by simp) (rws_nil _ _) (Rd.nil _ _) (Rd.nil _ _) (by simp) (by simp) (by simp) (by simp) (by simp) 2 gE_empty rfl
theorem lit_rows (w : World) : Rws (((w.alloc (.cells #[.int .i64 1, .int .i64 3] 3)).alloc (.cells #[.int .i64 4] 3)).alloc (.cells #[.slice (some ⟨w.heap.size, 0, none⟩) 2 2, .slice (some ⟨w.heap.size + 1, 0, none⟩) 1 1] 28)) (some ⟨w.heap.size + 1 + 1, 0, none⟩) [(some ⟨w.heap.size, 0, none⟩, [1, 3], 2), (some ⟨w.heap.size + 1, 0, none⟩, [4], 1)] := by
  have K1 := ((Blk.new w 3 #[.int .i64 1, .int .i64 3]).alloc (.cells #[.int .i64 4] 3)).alloc (.cells #[.slice (some ⟨w.heap.size, 0, none⟩) 2 2, .slice (some ⟨w.heap.size + 1, 0, none⟩) 1 1] 28)
  have K2 := (Blk.new (w.alloc (.cells #[.int .i64 1, .int .i64 3] 3)) 3 #[.int .i64 4]).alloc (.cells #[.slice (some ⟨w.heap.size, 0, none⟩) 2 2, .slice (some ⟨w.heap.size + 1, 0, none⟩) 1 1] 28)
  have K3 := Blk.new ((w.alloc (.cells #[.int .i64 1, .int .i64 3] 3)).alloc (.cells #[.int .i64 4] 3)) 28 #[.slice (some ⟨w.heap.size, 0, none⟩) 2 2, .slice (some ⟨w.heap.size + 1, 0, none⟩) 1 1]
  have e2 : (w.alloc (.cells #[.int .i64 1, .int .i64 3] 3)).heap.size = w.heap.size + 1 := by simp
  have e3 : ((w.alloc (.cells #[.int .i64 1, .int .i64 3] 3)).alloc (.cells #[.int .i64 4] 3)).heap.size = w.heap.size + 1 + 1 := by simp
  rw [e2] at K2
  rw [e3] at K3
  refine ⟨rd_blk K3 _ rfl, fun r hr => ?_⟩
  rcases List.mem_cons.1 hr with rfl | hr
  · exact rd_blk K1 _ rfl
  · rcases List.mem_cons.1 hr with rfl | hr
    · exact rd_blk K2 _ rfl
    · simp at hr
set_option maxRecDepth 100000 in
set_option maxHeartbeats 400000 in
theorem shown_any (w : World) :
    Calls Try.prog 4 #[] w fun e w' => e = .returned (.bool true) ∧ Below w.heap.size w w' := by
  go_enter Try.func4, Try.ntmps4
  go_wp2_with fail
  refine (default_shown _).mono ?_
  rintro e w1 ⟨A, c, rfl, hl, hc, hB⟩
  go_wp2
  have K0 := Blk.new w1 25 #[.int .i64 8, .int .u32 17, .int .i64 1, .slice A 1 c, .int .u32 2147483249, .int .i64 4, .int .u32 2]
  have hl0 := hl.alloc (.cells #[.int .i64 8, .int .u32 17, .int .i64 1, .slice A 1 c, .int .u32 2147483249, .int .i64 4, .int .u32 2] 25)
  have hB0 := hB.alloc hB.size (.cells #[.int .i64 8, .int .u32 17, .int .i64 1, .slice A 1 c, .int .u32 2147483249, .int .i64 4, .int .u32 2] 25)
  obtain ⟨W, hW⟩ : ∃ W : World, W = w1.alloc (.cells #[.int .i64 8, .int .u32 17, .int .i64 1, .slice A 1 c, .int .u32 2147483249, .int .i64 4, .int .u32 2] 25) := ⟨_, rfl⟩
  rw [← hW] at K0 hl0 hB0 ⊢
  clear hW hB hl
  generalize w1.heap.size = bp at *
  have c0 := K0.cellv 0 rfl
  have c1 := K0.cellv 1 rfl
  have c2 := K0.cellv 2 rfl
  have c3 := K0.cellv 3 rfl
  have c4 := K0.cellv 4 rfl
  have c5 := K0.cellv 5 rfl
  have c6 := K0.cellv 6 rfl
  have hS : Hid (∀ w', Below W.heap.size W w' → Below W.heap.size W w' ∧ w'.cell? ⟨bp, 0, none⟩ = some (.int .i64 8) ∧ w'.cell? ⟨bp, 1, none⟩ = some (.int .u32 17) ∧ w'.cell? ⟨bp, 2, none⟩ = some (.int .i64 1) ∧ w'.cell? ⟨bp, 3, none⟩ = some (.slice A 1 c) ∧ w'.cell? ⟨bp, 4, none⟩ = some (.int .u32 2147483249) ∧ w'.cell? ⟨bp, 5, none⟩ = some (.int .i64 4) ∧ w'.cell? ⟨bp, 6, none⟩ = some (.int .u32 2)) := Lib.hid fun w' hb =>
    ⟨hb, (K0.keep hb).cellv 0 rfl, (K0.keep hb).cellv 1 rfl, (K0.keep hb).cellv 2 rfl, (K0.keep hb).cellv 3 rfl, (K0.keep hb).cellv 4 rfl, (K0.keep hb).cellv 5 rfl, (K0.keep hb).cellv 6 rfl⟩
  have HX : Below W.heap.size W (exW W.drew) := bl_then (bl_drewN (Below.refl _ _) 1) (exW_below W.drew) (Nat.le_refl _)
  have HG := Lib.hid (groups_shown A c _ _ (exW W.drew) (hl0.below HX) hc (exW_nodes W.drew) (exW_outs W.drew))
  go_cut [3, 4] (fun x y wc => ∃ AR cr, ∃ rows : List RowT, x = .slice AR rows.length cr ∧ y = .int .i64 0 ∧ rows.map (·.2.1) = [[1, 3], [4]] ∧ Rws wc AR rows ∧ Below W.heap.size W wc)
  case first =>
    go_region_held3 (fun w' => Below W.heap.size W w' ∧ w'.cell? ⟨bp, 0, none⟩ = some (.int .i64 8) ∧ w'.cell? ⟨bp, 1, none⟩ = some (.int .u32 17) ∧ w'.cell? ⟨bp, 2, none⟩ = some (.int .i64 1) ∧ w'.cell? ⟨bp, 3, none⟩ = some (.slice A 1 c) ∧ w'.cell? ⟨bp, 4, none⟩ = some (.int .u32 2147483249) ∧ w'.cell? ⟨bp, 5, none⟩ = some (.int .i64 4) ∧ w'.cell? ⟨bp, 6, none⟩ = some (.int .u32 2))
      (first
        | exact hS.out _ (bl_drewN (Below.refl _ _) 1)
        | exact hS.out _ (bl_then (bl_drewN (Below.refl _ _) 1) (exW_below _) (Nat.le_refl _))
        | (go_split_ands; refine hS.out _ ?_; repeat (first | assumption | exact Below.refl _ _ | refine bl_dr ?_ | refine bl_al ?_ _ | refine bl_then ?_ (by assumption) (Nat.le_refl _) | refine bl_then ?_ (exW_below _) (Nat.le_refl _))))
      (first
        | (go_at_call 9; refine (example_any _).mono ?_; rintro e w' ⟨rfl, rfl⟩)
        | (go_at_call 6; refine HG.out.mono ?_; rintro e w' ⟨AR, cr, rows, rfl, hr, hR, hcr, hb⟩))
    all_goals
      go_wp2
      go_meet
      case rel => exact ⟨AR, cr, rows, rfl, rfl, hr.trans grp_shown, hR, bl_then HX hb (Nat.le_refl _)⟩
  case rest =>
    obtain ⟨AR, cr, rows, rfl, rfl, hr, hR, hbc⟩ := hcut
    have K1 := K0.keep hbc
    have hl1 := hl0.below hbc
    have hB1 := bl_then hB0 hbc (Nat.le_refl _)
    clear K0 hl0 hB0 c0 c1 c2 c3 c4 c5 c6 hS HX HG hbc
    have c0 := K1.cellv 0 rfl
    have c1 := K1.cellv 1 rfl
    have c2 := K1.cellv 2 rfl
    have c3 := K1.cellv 3 rfl
    have c4 := K1.cellv 4 rfl
    have c5 := K1.cellv 5 rfl
    have c6 := K1.cellv 6 rfl
    have hS : Hid (∀ w', Below wc.heap.size wc w' → Below wc.heap.size wc w' ∧ w'.cell? ⟨bp, 0, none⟩ = some (.int .i64 8) ∧ w'.cell? ⟨bp, 1, none⟩ = some (.int .u32 17) ∧ w'.cell? ⟨bp, 2, none⟩ = some (.int .i64 1) ∧ w'.cell? ⟨bp, 3, none⟩ = some (.slice A 1 c) ∧ w'.cell? ⟨bp, 4, none⟩ = some (.int .u32 2147483249) ∧ w'.cell? ⟨bp, 5, none⟩ = some (.int .i64 4) ∧ w'.cell? ⟨bp, 6, none⟩ = some (.int .u32 2)) := Lib.hid fun w' hb =>
      ⟨hb, (K1.keep hb).cellv 0 rfl, (K1.keep hb).cellv 1 rfl, (K1.keep hb).cellv 2 rfl, (K1.keep hb).cellv 3 rfl, (K1.keep hb).cellv 4 rfl, (K1.keep hb).cellv 5 rfl, (K1.keep hb).cellv 6 rfl⟩
    have HX : Below wc.heap.size wc (exW wc.drew) := bl_then (bl_drewN (Below.refl _ _) 1) (exW_below wc.drew) (Nat.le_refl _)
    have HG := Lib.hid (saved_shown A c _ _ (exW wc.drew) (hl1.below HX) hc (exW_nodes wc.drew) (exW_outs wc.drew))
    have HR := Lib.hid hR
    have HW := Lib.hid hr
    clear hR hr
    go_upto_region 3 with fail
    go_cut [5, 6] (fun x y wd => x = .int .i64 1 ∧ y = .int .i64 0 ∧ Below wc.heap.size wc wd)
    case first =>
      go_region_held3 (fun w' => Below wc.heap.size wc w' ∧ w'.cell? ⟨bp, 0, none⟩ = some (.int .i64 8) ∧ w'.cell? ⟨bp, 1, none⟩ = some (.int .u32 17) ∧ w'.cell? ⟨bp, 2, none⟩ = some (.int .i64 1) ∧ w'.cell? ⟨bp, 3, none⟩ = some (.slice A 1 c) ∧ w'.cell? ⟨bp, 4, none⟩ = some (.int .u32 2147483249) ∧ w'.cell? ⟨bp, 5, none⟩ = some (.int .i64 4) ∧ w'.cell? ⟨bp, 6, none⟩ = some (.int .u32 2))
        (first
          | exact hS.out _ (bl_drewN (Below.refl _ _) 1)
          | exact hS.out _ (bl_then (bl_drewN (Below.refl _ _) 1) (exW_below _) (Nat.le_refl _))
          | (go_split_ands; refine hS.out _ ?_; repeat (first | assumption | exact Below.refl _ _ | refine bl_dr ?_ | refine bl_al ?_ _ | refine bl_then ?_ (by assumption) (Nat.le_refl _) | refine bl_then ?_ (exW_below _) (Nat.le_refl _))))
        (first
          | (go_at_call 9; refine (example_any _).mono ?_; rintro e w' ⟨rfl, rfl⟩)
          | (go_at_call 10; refine HG.out.mono ?_; rintro e w' ⟨rfl, hb⟩))
      all_goals
        go_wp2
        go_meet
        case rel => exact ⟨rfl, rfl, bl_then HX hb (Nat.le_refl _)⟩
    case rest =>
      obtain ⟨rfl, rfl, hbd⟩ := hcut
      have K2 := K1.keep hbd
      have hl2 := hl1.below hbd
      have HR2 := Lib.hid (HR.out.below hbd)
      have hB2 := bl_then hB1 hbd (Nat.le_refl _)
      clear K1 hl1 hB1 c0 c1 c2 c3 c4 c5 c6 hS HX HG hbd HR
      have c0 := K2.cellv 0 rfl
      have c1 := K2.cellv 1 rfl
      have c2 := K2.cellv 2 rfl
      have c3 := K2.cellv 3 rfl
      have c4 := K2.cellv 4 rfl
      have c5 := K2.cellv 5 rfl
      have c6 := K2.cellv 6 rfl
      have HG := Lib.hid (groups_empty A c _ hl2 hc)
      go_wp2_with fail
      refine HG.out.mono ?_
      rintro e w3 ⟨rfl, hb3⟩
      have HR3 := HR2.out.below hb3
      have hB3 := bl_then hB2 hb3 (Nat.le_refl _)
      clear HR2 hB2 hb3 HG c0 c1 c2 c3 c4 c5 c6 K2 hl2
      have hrl : rows.length = 2 := by have := congrArg List.length HW.out; simpa using this
      have hrb : ∀ r ∈ rows, r.2.1.length ≤ 100000 := fun r h => by
        have h1 : r.2.1 ∈ rows.map (·.2.1) := List.mem_map.2 ⟨r, h, rfl⟩
        rw [HW.out] at h1
        simp at h1
        rcases h1 with h1 | h1 <;> rw [h1] <;> simp
      have hBo : ∀ o1 o2 o3, Below w3.heap.size w3 (((w3.alloc o1).alloc o2).alloc o3) := fun o1 o2 o3 => (((Below.refl _ _).alloc (Nat.le_refl _) _).alloc (by simp) _).alloc (by simp; omega) _
      have HC := Lib.hid (same_any AR (some ⟨w3.heap.size + 1 + 1, 0, none⟩) rows [(some ⟨w3.heap.size, 0, none⟩, [1, 3], 2), (some ⟨w3.heap.size + 1, 0, none⟩, [4], 1)] cr 2
        (((w3.alloc (.cells #[.int .i64 1, .int .i64 3] 3)).alloc (.cells #[.int .i64 4] 3)).alloc (.cells #[.slice (some ⟨w3.heap.size, 0, none⟩) 2 2, .slice (some ⟨w3.heap.size + 1, 0, none⟩) 1 1] 28))
        (HR3.below (hBo _ _ _)) (lit_rows w3) (by omega) (by simp) hrb (by simp))
      rw [HW.out] at HC
      clear hrb HR3 hrl
      simp only [List.length_cons, List.length_nil, Nat.zero_add, Nat.reduceAdd] at HC
      go_wp2_with fail
      refine HC.out.mono ?_
      rintro e w' ⟨rfl, m, rfl⟩
      go_wp2
      go_ret
      exact ⟨rfl, bl_drewN (hB3.trans ((hBo _ _ _).mono (hB3.size))) _⟩
end Go.Proofs.Ytidlfjaogjpokaa
