/- The sort of the groups by their first elements. -/
import Derived.Test.YtidlfjaogjpokaaHoD
import Derived.Shelf.SlSortCmp.NoneTotal
import Derived.Sort.Row
namespace Go.Proofs.Ytidlfjaogjpokaa
open Go.Shelf
def sortL_ren : Go.Shelf.Ren := ⟨fun | 6 => 25 | 15 => 42 | 14 => 41 | 28 => 59 | 29 => 60 | 20 => 51 | 21 => 52 | 22 => 53 | 23 => 54 | 24 => 55 | 25 => 56 | 26 => 57 | 27 => 58 | 46 => 78 | 47 => 79 | 48 => 80 | 49 => 81 | 50 => 82 | 57 => 86 | n => n, fun | 22 => 33 | 24 => 28 | 25 => 65 | 3 => 3 | 39 => 86 | 0 => 0 | 53 => 22 | 55 => 75 | 4 => 4 | 46 => 93 | 45 => 92 | 50 => 97 | 5 => 5 | 9 => 9 | 66 => 108 | 70 => 112 | 76 => 118 | 77 => 119 | n => n, fun | n => n⟩
theorem sortL : Go.Proofs.SlLaysF.n6 Try.prog sortL_ren := {
  mixed := by kernel_rfl
  f6 := ⟨Try.f25.name, by decide, Try.func25.trans (congrArg some (by kernel_rfl))⟩
  f14 := ⟨Try.f41.name, by decide, Try.func41.trans (congrArg some (by kernel_rfl))⟩
  f15 := Try.func42.trans (congrArg some (by kernel_rfl))
  f20 := ⟨Try.f51.name, by decide, Try.func51.trans (congrArg some (by kernel_rfl))⟩
  f21 := ⟨Try.f52.name, by decide, Try.func52.trans (congrArg some (by kernel_rfl))⟩
  f22 := ⟨Try.f53.name, by decide, Try.func53.trans (congrArg some (by kernel_rfl))⟩
  f23 := ⟨Try.f54.name, by decide, Try.func54.trans (congrArg some (by kernel_rfl))⟩
  f24 := ⟨Try.f55.name, by decide, Try.func55.trans (congrArg some (by kernel_rfl))⟩
  f25 := ⟨Try.f56.name, by decide, Try.func56.trans (congrArg some (by kernel_rfl))⟩
  f26 := ⟨Try.f57.name, by decide, Try.func57.trans (congrArg some (by kernel_rfl))⟩
  f27 := ⟨Try.f58.name, by decide, Try.func58.trans (congrArg some (by kernel_rfl))⟩
  f28 := Try.func59.trans (congrArg some (by kernel_rfl))
  f29 := Try.func60.trans (congrArg some (by kernel_rfl))
  f46 := ⟨Try.f78.name, by decide, Try.func78.trans (congrArg some (by kernel_rfl))⟩
  f47 := Try.func79.trans (congrArg some (by kernel_rfl))
  f48 := Try.func80.trans (congrArg some (by kernel_rfl))
  f49 := ⟨Try.f81.name, by decide, Try.func81.trans (congrArg some (by kernel_rfl))⟩
  f50 := ⟨Try.f82.name, by decide, Try.func82.trans (congrArg some (by kernel_rfl))⟩
  f57 := ⟨Try.f86.name, by decide, Try.func86.trans (congrArg some (by kernel_rfl))⟩
  t0 := Try.underlying0
  a0 := Try.isAgg0
  z0 := Try.sizeOf0
  v0 := Try.zeroValue0
  t3 := Try.underlying3
  a3 := Try.isAgg3
  z3 := Try.sizeOf3
  v3 := Try.zeroValue3
  t4 := Try.underlying4
  a4 := Try.isAgg4
  z4 := Try.sizeOf4
  v4 := Try.zeroValue4
  t5 := Try.underlying5
  a5 := Try.isAgg5
  z5 := Try.sizeOf5
  v5 := Try.zeroValue5
  t9 := Try.underlying9
  a9 := Try.isAgg9
  z9 := Try.sizeOf9
  v9 := Try.zeroValue9
  t22 := Try.underlying33
  a22 := Try.isAgg33
  z22 := Try.sizeOf33
  v22 := Try.zeroValue33
  a24 := Try.isAgg28
  z24 := Try.sizeOf28
  t25 := Try.underlying65
  a25 := Try.isAgg65
  z25 := Try.sizeOf65
  v25 := Try.zeroValue65
  t39 := Try.underlying86
  a39 := Try.isAgg86
  z39 := Try.sizeOf86
  v39 := Try.zeroValue86
  t45 := Try.underlying92
  a45 := Try.isAgg92
  z45 := Try.sizeOf92
  v45 := Try.zeroValue92
  t46 := Try.underlying93
  a46 := Try.isAgg93
  z46 := Try.sizeOf93
  v46 := Try.zeroValue93
  t50 := Try.underlying97
  a50 := Try.isAgg97
  z50 := Try.sizeOf97
  v50 := Try.zeroValue97
  t53 := Try.underlying22
  a53 := Try.isAgg22
  z53 := Try.sizeOf22
  v53 := Try.zeroValue22
  t55 := Try.underlying75
  a55 := Try.isAgg75
  z55 := Try.sizeOf75
  v55 := Try.zeroValue75
  t66 := Try.underlying108
  a66 := Try.isAgg108
  z66 := Try.sizeOf108
  v66 := Try.zeroValue108
  t70 := Try.underlying112
  a70 := Try.isAgg112
  z70 := Try.sizeOf112
  v70 := Try.zeroValue112
  t76 := Try.underlying118
  a76 := Try.isAgg118
  z76 := Try.sizeOf118
  v76 := Try.zeroValue118
  t77 := Try.underlying119
  a77 := Try.isAgg119
  z77 := Try.sizeOf119
  v77 := Try.zeroValue119 }
end Go.Proofs.Ytidlfjaogjpokaa
namespace Go.Proofs.Ytidlfjaogjpokaa
open Go.RowKit Go.Maps Go.ChangeMaps Go.Shelf Go.Lib Go.Sort

theorem isnan_any (x : Int) (w : World) : Calls Try.prog 43 #[.int .i64 x] w fun e w' => e = .returned (.bool false) ∧ w = w' := by
  go_enter Try.func43, Try.ntmps43
  go_wp2
  go_ret
  exact ⟨rfl, rfl⟩
def cmpI (x y : Int) : Int := if x < y then -1 else if y < x then 1 else 0
theorem cmp_any (x y : Int) (w : World) : Calls Try.prog 27 #[.int .i64 x, .int .i64 y] w fun e w' => e = .returned (.int .i64 (cmpI x y)) ∧ w = w' := by
  unfold cmpI
  by_cases h1 : x < y
  · go_enter Try.func27, Try.ntmps27
    go_wp2_with (go_at_call 43; refine (isnan_any _ _).mono ?_; rintro e w' ⟨rfl, rfl⟩)
    go_ret
    exact ⟨by simp [h1], rfl⟩
  · by_cases h2 : y < x
    · go_enter Try.func27, Try.ntmps27
      go_wp2_with (go_at_call 43; refine (isnan_any _ _).mono ?_; rintro e w' ⟨rfl, rfl⟩)
      go_ret
      exact ⟨by simp [h1, h2], rfl⟩
    · go_enter Try.func27, Try.ntmps27
      go_wp2_with (go_at_call 43; refine (isnan_any _ _).mono ?_; rintro e w' ⟨rfl, rfl⟩)
      go_ret
      exact ⟨by simp [h1, h2], rfl⟩

/-- the comparison: first elements -/
theorem first_any (b1 o1 n1 c1 b2 o2 n2 c2 : Nat) (x y : Int) (w : World) (h1 : w.cell? ⟨b1, o1, none⟩ = some (.int .i64 x)) (h2 : w.cell? ⟨b2, o2, none⟩ = some (.int .i64 y)) (l1 : 0 < n1) (l2 : 0 < n2) :
    Calls Try.prog 26 #[.slice (some ⟨b1, o1, none⟩) n1 c1, .slice (some ⟨b2, o2, none⟩) n2 c2] w fun e w' => e = .returned (.int .i64 (cmpI x y)) ∧ ∃ q, w' = w.drewN q := by
  go_enter Try.func26, Try.ntmps26
  go_wp2
  go_quiet ((go_at_call 27; exact quiet_of_eq (cmp_any _ _ _)))
  go_wp2
  go_ret
  exact ⟨rfl, _, rfl⟩

/-- a slice whose first element lies at an address of another block -/
def ElOk (w : World) (blk : Nat) (s : SlV) : Prop := ∃ b z, s.1 = some ⟨b, 0, none⟩ ∧ 0 < s.2.1 ∧ b ≠ blk ∧ b < w.heap.size ∧ w.cell? ⟨b, 0, none⟩ = some (.int .i64 z)
abbrev El (w : World) (blk : Nat) : Type := { s : SlV // ElOk w blk s }
def keyS (w : World) (s : SlV) : Int := match s.1 with
  | some a => match w.cell? a with
    | some (.int _ z) => z
    | _ => 0
  | none => 0
theorem keyS_of {w : World} {s : SlV} {b : Nat} {z : Int} (h1 : s.1 = some ⟨b, 0, none⟩) (h2 : w.cell? ⟨b, 0, none⟩ = some (.int .i64 z)) : keyS w s = z := by
  unfold keyS; rw [h1]; simp only [h2]
def encE {w : World} {blk : Nat} (x : El w blk) : Value := slV x.1
def cfE {w : World} {blk : Nat} (x y : El w blk) : Int := cmpI (keyS w x.1) (keyS w y.1)
theorem ltE {w : World} {blk : Nat} (x y : El w blk) : ltOf cfE x y = decide (keyS w x.1 < keyS w y.1) := by
  unfold ltOf cfE cmpI
  by_cases h1 : keyS w x.1 < keyS w y.1
  · simp [h1]
  · by_cases h2 : keyS w y.1 < keyS w x.1 <;> simp [h1, h2]
theorem swoE (w : World) (blk : Nat) : SWO (ltOf (cfE (w := w) (blk := blk))) where
  irrefl x := by rw [ltE]; simp
  trans x y z h1 h2 := by rw [ltE] at *; simp at *; omega
  ntrans x y z h1 h2 := by rw [ltE] at *; simp at *; omega
theorem sortWorld_cell {α : Type} [Inhabited α] (enc : α → Value) (w : World) (blk off m : Nat) (dk : Array α) (os : Array Obj) {b : Nat} (hb : b ≠ blk) (hl : b < w.heap.size) (o : Nat) : (sortWorld enc w blk off m dk os).cell? ⟨b, o, none⟩ = w.cell? ⟨b, o, none⟩ := by
  unfold sortWorld
  rw [cell?_grow _ _ _ (by rw [size_putRow]; exact hl), cell?_putRow_other _ _ _ _ _ _ (.inl hb)]
  rfl
theorem readsE (w : World) (blk off size : Nat) [Inhabited (El w blk)] : CmpReads Try.prog 26 #[] (encE (w := w) (blk := blk)) cfE blk off size w := by
  intro m os dk hs x y
  obtain ⟨⟨a1, n1, c1⟩, b1, z1, e1, l1, ne1, lt1, hc1⟩ := x
  obtain ⟨⟨a2, n2, c2⟩, b2, z2, e2, l2, ne2, lt2, hc2⟩ := y
  dsimp only at e1 e2 l1 l2
  subst e1
  subst e2
  have k1 : keyS w (some ⟨b1, 0, none⟩, n1, c1) = z1 := keyS_of rfl hc1
  have k2 : keyS w (some ⟨b2, 0, none⟩, n2, c2) = z2 := keyS_of rfl hc2
  have := first_any b1 0 n1 c1 b2 0 n2 c2 z1 z2 (sortWorld encE w blk off m dk os) ((sortWorld_cell _ _ _ _ _ _ _ ne1 lt1 0).trans hc1) ((sortWorld_cell _ _ _ _ _ _ _ ne2 lt2 0).trans hc2) l1 l2
  simpa [cfE, k1, k2, encE, slV] using this
end Go.Proofs.Ytidlfjaogjpokaa
