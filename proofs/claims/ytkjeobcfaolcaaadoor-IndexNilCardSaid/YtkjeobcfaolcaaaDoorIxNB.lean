/- IndexNil: the law's walk. -/
import Derived.Test.YtkjeobcfaolcaaaDoorIxNA
namespace Go.Proofs.YtkjeobcfaolcaaaDoor
open Go.RowKit
set_option maxHeartbeats 4000000
set_option linter.unusedVariables false
set_option linter.unusedSimpArgs false

set_option maxRecDepth 100000 in
theorem indexNil_b {w : World} (hT : Tab w) : Calls Tryd.prog 8 #[] w fun e w' => e = .returned (.bool true) ∧ Below w.heap.size w w' := by
  have ht1 := hT.lt
  have hT := Lib.hid hT
  have C1 := Lib.hid (nothing_b (p := none) (w := w) (.inl rfl))
  go_enter Tryd.func8, Tryd.ntmps8
  go_wp2_with fail
  refine C1.out.mono ?_
  rintro _ w1 ⟨rfl, bl⟩
  have L1 := Lib.hid bl
  clear bl C1
  obtain ⟨w2, hw2⟩ : ∃ u, Hid (u = w1.alloc (.cells #[.slice none 0 0, .slice none 0 0] 73)) := ⟨_, Lib.hid rfl⟩
  have N2 : Hid (NzI w2 (some ⟨w1.heap.size, 0, none⟩)) := Lib.hid (by rw [hw2.out]; exact .inr ⟨_, rfl, Blk.new _ _ _⟩)
  have L2 : Hid (Below w.heap.size w w2) := Lib.hid (by rw [hw2.out]; exact L1.out.alloc L1.out.size _)
  go_wp2_with fail
  rw [← hw2.out]
  refine (nothing_b N2.out).mono ?_
  rintro _ w3 ⟨rfl, bl⟩
  have L3 := Lib.hid (L2.out.trans (bl.mono L2.out.size))
  clear bl hw2 N2 L1 L2
  have T3 := Lib.hid (hT.out.keep (L3.out.block 1 ht1))
  go_wp2_with fail
  refine (known_b T3.out).mono ?_
  rintro _ w4 ⟨rfl, bl⟩
  have L4 := Lib.hid (L3.out.trans (bl.mono L3.out.size))
  clear bl T3 L3 hT
  go_wp2
  go_ret
  exact ⟨rfl, L4.out⟩
end Go.Proofs.YtkjeobcfaolcaaaDoor
