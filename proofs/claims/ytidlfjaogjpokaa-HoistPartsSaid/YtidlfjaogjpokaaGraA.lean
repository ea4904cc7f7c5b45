/- The walks of package graph: the kinds' arguments, the limits, the depths. -/
import Derived.Test.YtidlfjaogjpokaaParC
import Derived.Laws.EntriesVeiled
namespace Go.Proofs.Ytidlfjaogjpokaa
open Go.RowKit

/-- does a node of this kind use its first, its second argument? -/
def hasA (k : Int) : Bool := !(k == 1)
def hasB (k : Int) : Bool := k == 2 || k == 3 || k == 5
theorem has_any (k : Int) (w : World) :
    Calls Try.prog 39 #[.int .i64 k] w fun e w' => e = .returned (.agg #[.bool (hasA k), .bool (hasB k)]) ∧ Below w.heap.size w w' := by
  have hB : ∀ o, Below w.heap.size w (w.alloc o) := fun o => (Below.refl _ _).alloc (Nat.le_refl _) o
  by_cases h1 : k = 1
  · subst h1
    go_enter Try.func39, Try.ntmps39
    go_wp2
    refine bodyPost_ret (results_cell_row (ty := 80) rfl _ _ w.heap.size 80 _ (0, 0) _ rfl (heap_alloc_new w _) Try.underlying80 rfl (by kernel_rfl)) rfl ?_
    exact ⟨rfl, hB _⟩
  · by_cases h2 : k = 2 ∨ k = 3 ∨ k = 5
    · have hb : hasB k = true := by unfold hasB; rcases h2 with rfl | rfl | rfl <;> rfl
      have ha : hasA k = true := by unfold hasA; simpa using h1
      rw [ha, hb]
      rcases h2 with rfl | rfl | rfl
      all_goals
        go_enter Try.func39, Try.ntmps39
        go_wp2
        refine bodyPost_ret (results_cell_row (ty := 80) rfl _ _ w.heap.size 80 _ (0, 0) _ rfl (heap_alloc_new w _) Try.underlying80 rfl (by kernel_rfl)) rfl ?_
        exact ⟨rfl, hB _⟩
    · have hb : hasB k = false := by unfold hasB; simp; omega
      have ha : hasA k = true := by unfold hasA; simpa using h1
      have n2 : ¬ k = 2 := by omega
      have n3 : ¬ k = 3 := by omega
      have n5 : ¬ k = 5 := by omega
      rw [ha, hb]
      clear ha hb h2
      go_enter Try.func39, Try.ntmps39
      go_wp2
      refine bodyPost_ret (results_cell_row (ty := 80) rfl _ _ w.heap.size 80 _ (0, 0) _ rfl (heap_alloc_new w _) Try.underlying80 rfl (by kernel_rfl)) rfl ?_
      exact ⟨rfl, hB _⟩
end Go.Proofs.Ytidlfjaogjpokaa
