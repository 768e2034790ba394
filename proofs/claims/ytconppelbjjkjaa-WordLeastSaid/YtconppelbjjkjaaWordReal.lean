/- The law WordReal: its walk. -/
import Derived.Test.YtconppelbjjkjaaWordD
namespace Go.Proofs.Ytconppelbjjkjaa
open Go.RowKit
set_option maxHeartbeats 400000

theorem bd_u64 {x : Int} (h : (Lit.int .u64 x).wf = true) : 0 ≤ x ∧ x ≤ 18446744073709551615 := by
  simp [Lit.wf, IntKind.min, IntKind.max, IntKind.signed, IntKind.bits] at h
  omega
theorem bd_i64 {x : Int} (h : (Lit.int .i64 x).wf = true) : -9223372036854775808 ≤ x ∧ x ≤ 9223372036854775807 := by
  simp [Lit.wf, IntKind.min, IntKind.max, IntKind.signed, IntKind.bits] at h
  omega

theorem raw_high (x : Int) (h1 : x ≤ 18446744073709551615) (hlo : 9223372036854775808 ≤ x) : isnan (rawOf x) = decide (18442240474082181120 < x) := by
  unfold rawOf
  rw [if_pos hlo, isnan_low _ (by omega), Bool.eq_iff_iff]
  simp only [decide_eq_true_eq]; omega
theorem raw_low (x : Int) (h0 : 0 ≤ x) (hlo : ¬ 9223372036854775808 ≤ x) : isnan (rawOf x) = decide (x < 4503599627370495) := by
  unfold rawOf
  rw [if_neg hlo, isnan_high _ (by omega) (by omega), Bool.eq_iff_iff]
  simp only [decide_eq_true_eq]; omega

theorem real_ref (x : Int) (h0 : 0 ≤ x) (h1 : x ≤ 18446744073709551615) (w : World) :
    Calls Try.prog 13 #[.int .u64 x] w fun e w' => e = .returned (.tuple #[.float .f64 (realOf x), .bool (realIs x)]) ∧ w = w' := by
  by_cases hx : x = 18446744073709551615
  · subst hx
    go_enter Try.func13, Try.ntmps13
    go_wp2_with (go_at_call 52; refine (nan_any _).mono ?_; rintro e w' ⟨rfl, rfl⟩)
    go_ret2
    exact ⟨ret_fb rfl rfl, rfl⟩
  · have hne : (x == 18446744073709551615) = false := by simpa using hx
    by_cases hlo : 9223372036854775808 ≤ x
    · have hn := raw_high x h1 hlo
      have e : rawOf x = (x - 9223372036854775808).toNat := by unfold rawOf; rw [if_pos hlo]
      by_cases hb : 18442240474082181120 < x
      · have hr := Lib.hid (show 0 = realOf x ∧ false = realIs x by simp [realOf, realIs, hx, hn, hb])
        clear hn e
        go_enter Try.func13, Try.ntmps13
        go_wp2
        go_ret2
        exact ⟨ret_fb hr.out.1 hr.out.2, rfl⟩
      · have hr := Lib.hid (show (x - 9223372036854775808).toNat = realOf x ∧ true = realIs x by rw [← e]; simp [realOf, realIs, hx, hn, hb])
        clear hn e
        go_enter Try.func13, Try.ntmps13
        go_wp2
        go_ret2
        exact ⟨ret_fb hr.out.1 hr.out.2, rfl⟩
    · have hn := raw_low x h0 hlo
      have e : rawOf x = (18446744073709551615 - x).toNat := by unfold rawOf; rw [if_neg hlo]
      by_cases hb : x < 4503599627370495
      · have hr := Lib.hid (show 0 = realOf x ∧ false = realIs x by simp [realOf, realIs, hx, hn, hb])
        clear hn e
        go_enter Try.func13, Try.ntmps13
        go_wp2
        go_ret2
        exact ⟨ret_fb hr.out.1 hr.out.2, rfl⟩
      · have hr := Lib.hid (show (18446744073709551615 - x).toNat = realOf x ∧ true = realIs x by rw [← e]; simp [realOf, realIs, hx, hn, hb])
        clear hn e
        go_enter Try.func13, Try.ntmps13
        go_wp2
        go_ret2
        exact ⟨ret_fb hr.out.1 hr.out.2, rfl⟩

theorem alike_self (a : Nat) : alike a a = true := by simp [alike]

theorem wordReal_walk (a0 : Int) (w0 : (Lit.int .u64 a0).wf = true) (w : World) :
    Calls Try.prog 3 #[.int .u64 a0] w fun e w' => e = .returned (.bool true) ∧ Below w.heap.size w w' := by
  obtain ⟨h0, h1⟩ := bd_u64 w0
  clear w0
  have ha := alike_self (realOf a0)
  go_enter Try.func3, Try.ntmps3
  go_wp2_with fail
  refine (real_any _ h0 h1 _).mono ?_
  rintro e w' ⟨rfl, rfl⟩
  go_wp2_with fail
  refine (real_ref _ h0 h1 _).mono ?_
  rintro e w' ⟨rfl, rfl⟩
  go_wp2_with fail
  refine (alike_any _ _ _).mono ?_
  rintro e w' ⟨rfl, rfl⟩
  go_wp2_with fail
  refine (known_any _).mono ?_
  rintro e w' ⟨rfl, rfl⟩
  go_wp2_with fail
  go_ret
  exact ⟨rfl, Below.refl _ _⟩
end Go.Proofs.Ytconppelbjjkjaa
