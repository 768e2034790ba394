/- IndexHomes: the law's walk. -/
import Derived.Test.YtkjeobcfaolcaaaDoorIxL
import Derived.Test.YtkjeobcfaolcaaaDoorIxD
namespace Go.Proofs.YtkjeobcfaolcaaaDoor
open Go.RowKit
set_option maxHeartbeats 4000000
set_option linter.unusedVariables false
set_option linter.unusedSimpArgs false

set_option maxRecDepth 100000 in
theorem homes_b {key s : Int} {w : World} (hT : Tab w) (h1 : -9223372036854775808 ≤ s) (h2 : s ≤ 9223372036854775807) : Calls Tryd.prog 3 #[.int .u64 key, .int .i64 s] w fun e w' => e = .returned (.bool true) ∧ Below w.heap.size w w' := by
  have KN := Lib.hid (known_b hT)
  by_cases hk : ∃ k, isSlots s k
  · obtain ⟨k, k3, k62, rfl⟩ := hk
    have C1 := Lib.hid (Home_yes (key := key) k3 k62 hT)
    have C2 := Lib.hid (rHome_yes (key := key) (w := w) k3 k62)
    clear h1 h2 hT
    generalize 2 ^ k = sl at *
    generalize homeOf key k = hm at *
    go_enter Tryd.func3, Tryd.ntmps3
    go_wp2_with fail
    refine C1.out.mono ?_
    rintro _ w2 ⟨rfl, rfl⟩
    go_wp2_with fail
    refine C2.out.mono ?_
    rintro _ w2 ⟨rfl, rfl⟩
    go_wp2_with fail
    refine num_b.mono ?_
    rintro _ w2 ⟨rfl, rfl⟩
    go_wp2_with fail
    refine KN.out.mono ?_
    rintro _ w2 ⟨rfl, hb⟩
    have hb := Lib.hid hb
    go_wp2
    go_ret
    exact ⟨rfl, hb.out⟩
  · have hn : ∀ k, ¬ isSlots s k := fun k h => hk ⟨k, h⟩
    have C1 := Lib.hid (Home_no (key := key) (w := w) h1 h2 hn)
    have C2 := Lib.hid (rHome_no (key := key) (w := w) h1 h2 hn)
    clear hT hn hk
    go_enter Tryd.func3, Tryd.ntmps3
    go_wp2_with fail
    refine C1.out.mono ?_
    rintro _ w2 ⟨rfl, rfl⟩
    go_wp2_with fail
    refine C2.out.mono ?_
    rintro _ w2 ⟨rfl, rfl⟩
    go_wp2_with fail
    refine num_b.mono ?_
    rintro _ w2 ⟨rfl, rfl⟩
    go_wp2_with fail
    refine KN.out.mono ?_
    rintro _ w2 ⟨rfl, hb⟩
    have hb := Lib.hid hb
    go_wp2
    go_ret
    exact ⟨rfl, hb.out⟩
end Go.Proofs.YtkjeobcfaolcaaaDoor
