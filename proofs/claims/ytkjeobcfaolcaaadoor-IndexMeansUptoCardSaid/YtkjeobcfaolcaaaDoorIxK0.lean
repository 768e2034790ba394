/- num; the library's table through a change of memory. -/
import Derived.Test.YtkjeobcfaolcaaaDoorIxJS
namespace Go.Proofs.YtkjeobcfaolcaaaDoor
open Go.RowKit
set_option maxHeartbeats 4000000
set_option linter.unusedVariables false
set_option linter.unusedSimpArgs false

theorem num_b {e : Int} {w : World} : Calls Tryd.prog 11 #[.int .i64 e] w fun r w' => r = .returned (.int .i64 e) ∧ w = w' := by
  go_enter Tryd.func11, Tryd.ntmps11
  go_wp2
  go_ret
  exact ⟨rfl, rfl⟩
theorem Tab.keep {w w' : World} (h : Tab w) (e : w'.heap[1]? = w.heap[1]?) : Tab w' := by
  intro i hi
  have := h i hi
  unfold World.cell? at *
  simp only [e]
  exact this
theorem Tab.lt {w : World} (h : Tab w) : 1 < w.heap.size := by
  have := h 0 (by decide)
  apply Nat.lt_of_not_le
  intro hle
  unfold World.cell? at this
  simp only [Array.getElem?_eq_none hle] at this
  simp at this
end Go.Proofs.YtkjeobcfaolcaaaDoor
