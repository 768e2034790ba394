/- The queue by its contracts: looked at. -/
import Derived.Test.YtfbbmnlebibplaaQuB
namespace Go.Proofs.Ytfbbmnlebibplaa
open Go.RowKit
set_option maxHeartbeats 4000000
set_option linter.unusedVariables false
set_option linter.unusedSimpArgs false

theorem qufirst_b {t n : Nat} {F F0 : Nat → Prop} {s : St} {p : Int} {w w0 : World} (hw : Txw w t F s) (hf : Fits s) (hb : Bud s (n + 2)) (hp : 0 ≤ p) (hp' : p ≤ 18446744073709551615) (hm : Fr F0 w0 F w) :
    Calls Try.prog 24 #[.iface 24 (.pointer (some ⟨t, 0, none⟩)), .int .u64 p] w fun e w' => ∃ x bo er s', Hid (qFirst s p = (x, bo, er, s')) ∧ 0 ≤ x ∧ x ≤ 18446744073709551615 ∧ e = .returned (.tuple #[.int .u64 x, .bool bo, .int .i64 er]) ∧ Lft t n F0 w0 s' w' := by
  go_enter Try.func24, Try.ntmps24
  have hQ := Qb.new hw 0
  have hmQ := hm.alloc (.cells #[.iface 24 (.pointer (some ⟨t, 0, none⟩)), .int .i64 0] 79)
  have hE : w0.heap.size ≤ w.heap.size := hm.size
  clear hw hm
  go_wp2_with fail
  generalize w.alloc (.cells #[.iface 24 (.pointer (some ⟨t, 0, none⟩)), .int .i64 0] 79) = w2 at *
  generalize w.heap.size = bb at *
  refine (qget_b hQ hf hb hp hmQ (.inr hE)).mono ?_
  rintro _ w1 ⟨x1, e1, s1, q1, dx, dx', rfl, f1, b1, F1, hQ1, hm1⟩
  have dE := hQ1.cell
  clear hQ hmQ hf hb
  by_cases he : e1 = 0
  case neg =>
    have hz : (e1 != 0) = true := by simpa using he
    have hq : Hid (qFirst s p = (0, false, e1, s1)) := Lib.hid (by unfold qFirst; rw [q1.out]; simp only; rw [if_pos (.inl hz)])
    have hT := Lib.hid hQ1.tx
    have hM := Lib.hid hm1
    clear he hQ1 hm1 q1
    go_wp2
    go_quiet (fail)
    go_wp2
    go_ret3
    exact ⟨0, false, e1, s1, hq, by omega, by omega, rfl, f1, b1.mono (by omega), F1, hT.out.drewN _, hM.out.drewN _⟩
  subst he
  by_cases h0 : x1 = 0
  · have hz : (x1 == 0) = true := by simpa using h0
    have hq : Hid (qFirst s p = (0, false, 0, s1)) := Lib.hid (by unfold qFirst; rw [q1.out]; simp only; rw [if_pos (.inr hz)])
    have hT := Lib.hid hQ1.tx
    have hM := Lib.hid hm1
    clear h0 hQ1 hm1 q1
    go_wp2
    go_quiet (fail)
    go_wp2
    go_ret3
    exact ⟨0, false, 0, s1, hq, by omega, by omega, rfl, f1, b1.mono (by omega), F1, hT.out.drewN _, hM.out.drewN _⟩
  have hz : (x1 == 0) = false := by simpa using h0
  clear h0
  obtain ⟨ux1, ux2⟩ := uw_bd (x1 - 1)
  go_wp2_with fail
  refine (qget_b hQ1 f1 b1 ux1 hm1 (.inr hE)).mono ?_
  rintro _ w3 ⟨x3, e3, s3, q3, dx3, dx3', rfl, f3, b3, F3, hQ3, hm3⟩
  have hq : Hid (qFirst s p = (x3, e3 == 0, e3, s3)) := Lib.hid (by unfold qFirst; rw [q1.out]; simp only; rw [if_neg (by simp [hz]), q3.out])
  have dE3 := hQ3.cell
  have hT := Lib.hid hQ3.tx
  have hM := Lib.hid hm3
  clear hQ1 hm1 q1 q3 hQ3 hm3
  go_wp2
  go_quiet (fail)
  go_wp2
  go_ret3
  exact ⟨_, _, e3, s3, hq, dx3, dx3', rfl, f3, b3, F3, hT.out.drewN _, hM.out.drewN _⟩
end Go.Proofs.Ytfbbmnlebibplaa
