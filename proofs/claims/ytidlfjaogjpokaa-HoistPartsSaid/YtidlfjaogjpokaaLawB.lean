/- The example of the law, and 'same'. -/
import Derived.Test.YtidlfjaogjpokaaDefA
import Derived.Test.YtidlfjaogjpokaaHoG
namespace Go.Proofs.Ytidlfjaogjpokaa
open Go.RowKit

def exN : List Nd := [(1, 0, 0, 0), (9, 0, 0, 1), (2, 0, 1, 0), (10, 0, 0, 0), (9, 2, 0, 1), (9, 0, 0, 0)]
def exC : Array Value := #[.int .i64 1, .int .i64 0, .int .i64 0, .int .i64 0, .int .i64 9, .int .i64 0, .int .i64 0, .int .i64 1, .int .i64 2, .int .i64 0, .int .i64 1, .int .i64 0, .int .i64 10, .int .i64 0, .int .i64 0, .int .i64 0, .int .i64 9, .int .i64 2, .int .i64 0, .int .i64 1, .int .i64 9, .int .i64 0, .int .i64 0, .int .i64 0]
def exG (w : World) : Value := .agg #[.int .i64 1, .slice none 0 0, .slice (some ⟨w.heap.size + 1 + 1, 0, none⟩) 6 6, .slice (some ⟨w.heap.size + 1, 0, none⟩) 1 1]
/-- the world that 'example' leaves -/
def exW (w : World) : World := ((w.alloc (.cells #[.int .i64 1, .slice none 0 0, .slice (some ⟨w.heap.size + 1 + 1, 0, none⟩) 6 6, .slice (some ⟨w.heap.size + 1, 0, none⟩) 1 1] 30)).alloc (.cells #[.int .i64 4] 3)).alloc (.cells exC 40)
theorem exW_below (w : World) : Below w.heap.size w (exW w) := (((Below.refl _ _).alloc (Nat.le_refl _) _).alloc (by simp) _).alloc (by simp; omega) _
theorem exW_nodes (w : World) : Nds (exW w) (some ⟨w.heap.size + 1 + 1, 0, none⟩) exN := by
  have K : Blk (exW w) (w.heap.size + 1 + 1) 40 exC := by
    have := Blk.new ((w.alloc (.cells #[.int .i64 1, .slice none 0 0, .slice (some ⟨w.heap.size + 1 + 1, 0, none⟩) 6 6, .slice (some ⟨w.heap.size + 1, 0, none⟩) 1 1] 30)).alloc (.cells #[.int .i64 4] 3)) 40 exC
    simpa [exW] using this
  intro k u hu
  refine ⟨_, rfl, ?_⟩
  have e1 : (⟨w.heap.size + 1 + 1, 0, none⟩ : Addr).add k = ⟨w.heap.size + 1 + 1, k, none⟩ := by unfold Addr.add; split <;> simp_all
  rw [e1]
  refine K.cellv k ?_
  have e2 : exC.toList = exN.flatMap ndv := rfl
  rw [← Array.getElem?_toList, e2]
  exact hu
theorem exW_outs (w : World) : Rd (exW w) (some ⟨w.heap.size + 1, 0, none⟩) (ints .i64 [4]) := by
  have K : Blk ((w.alloc (.cells #[.int .i64 1, .slice none 0 0, .slice (some ⟨w.heap.size + 1 + 1, 0, none⟩) 6 6, .slice (some ⟨w.heap.size + 1, 0, none⟩) 1 1] 30)).alloc (.cells #[.int .i64 4] 3)) (w.heap.size + 1) 3 #[.int .i64 4] := by
    have := Blk.new (w.alloc (.cells #[.int .i64 1, .slice none 0 0, .slice (some ⟨w.heap.size + 1 + 1, 0, none⟩) 6 6, .slice (some ⟨w.heap.size + 1, 0, none⟩) 1 1] 30)) 3 #[.int .i64 4]
    simpa using this
  intro k u hu
  rcases k with _ | k
  · refine ⟨_, rfl, ?_⟩
    have e1 : (⟨w.heap.size + 1, 0, none⟩ : Addr).add 0 = ⟨w.heap.size + 1, 0, none⟩ := rfl
    rw [e1]
    exact (K.alloc _).cellv 0 (by simpa [ints] using hu)
  · simp [ints] at hu
set_option maxRecDepth 100000 in
theorem example_any (w : World) :
    Calls Try.prog 9 #[] w fun e w' => e = .returned (exG w) ∧ w' = exW w := by
  go_enter Try.func9, Try.ntmps9
  go_wp2
  refine bodyPost_ret (results_cell_row (ty := 30) rfl _ _ w.heap.size 30 _ (0, 0) _ rfl ((Blk.new w 30 #[.int .i64 1, .slice none 0 0, .slice (some ⟨w.heap.size + 1 + 1, 0, none⟩) 6 6, .slice (some ⟨w.heap.size + 1, 0, none⟩) 1 1]).alloc _ |>.alloc _) Try.underlying30 rfl (by kernel_rfl)) rfl ?_
  exact ⟨rfl, rfl⟩
end Go.Proofs.Ytidlfjaogjpokaa
