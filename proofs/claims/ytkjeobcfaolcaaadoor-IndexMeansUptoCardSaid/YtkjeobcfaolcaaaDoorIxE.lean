/- A new table of texts, by contract. -/
import Derived.Test.YtkjeobcfaolcaaaDoorIxC
import Derived.Test.YtkjeobcfaolcaaaDoorBase
namespace Go.Proofs.YtkjeobcfaolcaaaDoor
open Go.RowKit
set_option maxHeartbeats 2000000
set_option linter.unusedVariables false
set_option linter.unusedSimpArgs false

/-- eight free slots -/
def free8 : Array Value := #[.bool false, .int .u64 0, .string ⟨#[]⟩, .bool false, .int .u64 0, .string ⟨#[]⟩, .bool false, .int .u64 0, .string ⟨#[]⟩, .bool false, .int .u64 0, .string ⟨#[]⟩, .bool false, .int .u64 0, .string ⟨#[]⟩, .bool false, .int .u64 0, .string ⟨#[]⟩, .bool false, .int .u64 0, .string ⟨#[]⟩, .bool false, .int .u64 0, .string ⟨#[]⟩]
theorem mk8_run (w : World) : (Instr.makeSlice 75 (.int .i64 8) (.int .i64 8)).run Tryd.prog w = .ok (.slice (some ⟨w.heap.size, 0, none⟩) 8 8) (w.alloc (.cells free8 87)) := by kernel_rfl
theorem newS_b (w : World) : Calls Tryd.prog 14 #[] w fun e w' => ∃ t g, e = .returned (.pointer (some ⟨t, 0, none⟩)) ∧ w.heap.size ≤ t ∧ w.heap.size ≤ g ∧ Blk w' t 77 #[.slice (some ⟨g, 0, none⟩) 8 8, .slice none 0 0] ∧ Blk w' g 87 free8 ∧ Below w.heap.size w w' := by
  have hmk := mk8_run
  go_enter Tryd.func14, Tryd.ntmps14
  go_wp2
  go_ret
  have e1 : (w.alloc (.cells free8 87)).heap.size = w.heap.size + 1 := World.size_alloc ..
  have B1 := Blk.new w 87 free8
  have B2 := Blk.new (w.alloc (.cells free8 87)) 77 #[.slice (some ⟨w.heap.size, 0, none⟩) 8 8, .slice none 0 0]
  rw [e1] at B2
  exact ⟨_, _, rfl, by omega, Nat.le_refl _, B2, B1.alloc _, ((Below.refl _ _).alloc (Nat.le_refl _) _).alloc (by rw [e1]; omega) _⟩
end Go.Proofs.YtkjeobcfaolcaaaDoor
