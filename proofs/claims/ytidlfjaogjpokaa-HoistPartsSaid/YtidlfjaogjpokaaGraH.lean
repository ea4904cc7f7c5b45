/- The closure of graph.Depths: does an argument refer y an earlier node? -/
import Derived.Test.YtidlfjaogjpokaaGraG
import Derived.StillTailTactics
namespace Go.Proofs.Ytidlfjaogjpokaa
open Go.RowKit Go.Maps Go.ChangeMaps

theorem grown_setd (w : World) (g i : Nat) (v : Value) : w.grownBy (w.setCell ⟨g, i, none⟩ v).drew (some g) :=
  ⟨rfl, rfl, rfl, by simp, fun k _ hk => heap_setCell_other w ⟨g, i, none⟩ k v (fun e => hk (by simp [e]))⟩
theorem refers_no (y : Int) (bi bd : Nat) (w : World) : Calls Try.prog 40 #[.bool false, .int .i64 y, .pointer (some ⟨bi, 0, none⟩), .pointer (some ⟨bd, 0, none⟩)] w fun e w' => e = .returned (.bool (argB false 0 y)) ∧ w = w' := by
  unfold argB
  go_enter Try.func40, Try.ntmps40
  go_wp2
  go_ret
  exact ⟨by simp, rfl⟩
theorem refers_out (i : Nat) (y : Int) (bi bd : Nat) (w : World) (hi : w.cell? ⟨bi, 0, none⟩ = some (.int .i64 i)) (h : argB true i y = false) : Calls Try.prog 40 #[.bool true, .int .i64 y, .pointer (some ⟨bi, 0, none⟩), .pointer (some ⟨bd, 0, none⟩)] w fun e w' => e = .returned (.bool false) ∧ w = w' := by
  have h' : y < 0 ∨ (i : Int) ≤ y := by unfold argB at h; simp at h; omega
  clear h
  by_cases h1 : y < 0
  · clear h'
    go_enter Try.func40, Try.ntmps40
    go_wp2
    go_ret
    exact ⟨rfl, rfl⟩
  · have h2 : (i : Int) ≤ y := by omega
    clear h'
    go_enter Try.func40, Try.ntmps40
    go_wp2
    go_ret
    exact ⟨rfl, rfl⟩
set_option maxRecDepth 100000 in
theorem refers_in (i y n cap : Nat) (bi bd g : Nat) (w : World) (cs : Array Value) (a b : Int) (hi : w.cell? ⟨bi, 0, none⟩ = some (.int .i64 i)) (hd : w.cell? ⟨bd, 0, none⟩ = some (.slice (some ⟨g, 0, none⟩) n cap))
    (hg : Blk w g 3 cs) (hin : i < n) (ht : y < i) (ha : cs[i]? = some (.int .i64 a)) (hb : cs[y]? = some (.int .i64 b)) (hn : n ≤ 100000) :
    Calls Try.prog 40 #[.bool true, .int .i64 y, .pointer (some ⟨bi, 0, none⟩), .pointer (some ⟨bd, 0, none⟩)] w
      fun e w' => e = .returned (.bool true) ∧ Blk w' g 3 (cs.setIfInBounds i (.int .i64 (if a < b then b else a))) ∧ w.grownBy w' (some g) := by
  have c1 := hg.cellv i ha
  have c2 := hg.cellv y hb
  have c3 := hg.frozen i
  have HG := Lib.hid hg
  have hto : y < n := by omega
  clear hg ha hb
  go_enter Try.func40, Try.ntmps40
  go_wp2
  go_still_tail 12, (by kernel_rfl)
  go_wp2
  all_goals
    go_ret
    refine ⟨rfl, ?_, ?_⟩
    · exact (HG.out.set_ i _).drewN 1
    · exact grown_setd w g i _
end Go.Proofs.Ytidlfjaogjpokaa
