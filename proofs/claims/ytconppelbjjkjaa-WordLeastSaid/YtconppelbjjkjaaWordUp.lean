/- The next number and the one ahead of it, by their contracts, and what they come to. -/
import Derived.Test.YtconppelbjjkjaaWordOrder
namespace Go.Proofs.Ytconppelbjjkjaa
open Go.RowKit
set_option maxHeartbeats 400000

theorem isInf_pos (b : Nat) (hb : b < 18446744073709551616) : fEq b 9218868437227405312 = decide (b = 9218868437227405312) := by
  have s1 : sr 9218868437227405312 = 9218868437227405312 := by decide
  have n1 : isnan 9218868437227405312 = false := by decide
  unfold fEq
  rw [s1, n1]
  cases hn : isnan b with
  | true =>
    have : b ≠ 9218868437227405312 := by intro h; subst h; rw [n1] at hn; cases hn
    simp [this]
  | false =>
    by_cases h : b < 9223372036854775808
    · rw [sr_low b h]; simp; omega
    · rw [sr_high b (by omega) hb]; simp; omega
theorem isInf_neg (b : Nat) (hb : b < 18446744073709551616) : fEq b 18442240474082181120 = decide (b = 18442240474082181120) := by
  have s1 : sr 18442240474082181120 = -9218868437227405312 := by decide
  have n1 : isnan 18442240474082181120 = false := by decide
  unfold fEq
  rw [s1, n1]
  cases hn : isnan b with
  | true =>
    have : b ≠ 18442240474082181120 := by intro h; subst h; rw [n1] at hn; cases hn
    simp [this]
  | false =>
    by_cases h : b < 9223372036854775808
    · rw [sr_low b h]; simp; omega
    · rw [sr_high b (by omega) hb]; simp; omega
/-- of a number: not +Inf just if it is at most the greatest finite one -/
theorem le_max (b : Nat) (hb : b < 18446744073709551616) (hn : isnan b = false) : (fLt b 9218868437227405311 || fEq b 9218868437227405311) = decide (b ≠ 9218868437227405312) := by
  have s1 : sr 9218868437227405311 = 9218868437227405311 := by decide
  have n1 : isnan 9218868437227405311 = false := by decide
  have hn' := hn
  unfold fEq fLt
  rw [s1, n1, hn, Bool.eq_iff_iff]
  simp only [Bool.not_false, Bool.true_and, Bool.or_eq_true, decide_eq_true_eq]
  by_cases h : b < 9223372036854775808
  · rw [isnan_low b h] at hn'
    simp only [decide_eq_false_iff_not] at hn'
    rw [sr_low b h]; omega
  · rw [sr_high b (by omega) hb]; omega
theorem gt_max (b : Nat) (hb : b < 18446744073709551616) (hn : isnan b = false) : fLt 9218868437227405311 b = decide (b = 9218868437227405312) := by
  have s1 : sr 9218868437227405311 = 9218868437227405311 := by decide
  have n1 : isnan 9218868437227405311 = false := by decide
  have hn' := hn
  unfold fLt
  rw [s1, n1, hn, Bool.eq_iff_iff]
  simp only [Bool.not_false, Bool.true_and, decide_eq_true_eq]
  by_cases h : b < 9223372036854775808
  · rw [isnan_low b h] at hn'
    simp only [decide_eq_false_iff_not] at hn'
    rw [sr_low b h]; omega
  · rw [sr_high b (by omega) hb]; omega
theorem ge_min (b : Nat) (hb : b < 18446744073709551616) (hn : isnan b = false) : (fLt 18442240474082181119 b || fEq b 18442240474082181119) = decide (b ≠ 18442240474082181120) := by
  have s1 : sr 18442240474082181119 = -9218868437227405311 := by decide
  have n1 : isnan 18442240474082181119 = false := by decide
  have hn' := hn
  unfold fEq fLt
  rw [s1, n1, hn, Bool.eq_iff_iff]
  simp only [Bool.not_false, Bool.true_and, Bool.or_eq_true, decide_eq_true_eq]
  by_cases h : b < 9223372036854775808
  · rw [sr_low b h]; omega
  · rw [isnan_high b (by omega) hb] at hn'
    simp only [decide_eq_false_iff_not] at hn'
    rw [sr_high b (by omega) hb]; omega
theorem lt_min (b : Nat) (hb : b < 18446744073709551616) (hn : isnan b = false) : fLt b 18442240474082181119 = decide (b = 18442240474082181120) := by
  have s1 : sr 18442240474082181119 = -9218868437227405311 := by decide
  have n1 : isnan 18442240474082181119 = false := by decide
  have hn' := hn
  unfold fLt
  rw [s1, n1, hn, Bool.eq_iff_iff]
  simp only [Bool.not_false, Bool.true_and, decide_eq_true_eq]
  by_cases h : b < 9223372036854775808
  · rw [sr_low b h]; omega
  · rw [isnan_high b (by omega) hb] at hn'
    simp only [decide_eq_false_iff_not] at hn'
    rw [sr_high b (by omega) hb]; omega

/-- what a number's word lies between -/
theorem ofReal_range (b : Nat) (hb : b < 18446744073709551616) (hn : isnan b = false) : 4503599627370495 ≤ ofReal b ∧ ofReal b ≤ 18442240474082181120 ∧ (b ≠ 9218868437227405312 → ofReal b ≤ 18442240474082181119) ∧ (b ≠ 18442240474082181120 → 4503599627370496 ≤ ofReal b) := by
  have hn' := hn
  unfold ofReal
  rw [hn]
  simp only [Bool.false_eq_true, if_false]
  by_cases h : b < 9223372036854775808
  · rw [isnan_low b h] at hn'
    simp only [decide_eq_false_iff_not] at hn'
    rw [if_pos h]; omega
  · rw [isnan_high b (by omega) hb] at hn'
    simp only [decide_eq_false_iff_not] at hn'
    rw [if_neg h]; omega

theorem real_in (x : Int) (h1 : 4503599627370495 ≤ x) (h2 : x ≤ 18442240474082181120) : realIs x = true ∧ isnan (realOf x) = false := by
  have hx : x ≠ 18446744073709551615 := by omega
  have hr : isnan (rawOf x) = false := by
    by_cases hlo : 9223372036854775808 ≤ x
    · rw [raw_high x (by omega) hlo]; simp; omega
    · rw [raw_low x (by omega) hlo]; simp; omega
  exact ⟨by simp [realIs, hx, hr], by simp [realOf, hx, hr]⟩

def upOf (b : Nat) : Nat := if isnan b || decide (b = 9218868437227405312) then 9221120237041090561 else realOf (ofReal b + 1)
def downOf (b : Nat) : Nat := if isnan b then 9218868437227405312 else if b = 18442240474082181120 then b else realOf (ofReal b - 1)

theorem inf_any (w : World) :
    Calls Try.prog 63 #[.int .i64 1] w fun e w' => e = .returned (.float .f64 9218868437227405312) ∧ w = w' := by
  go_enter Try.func63, Try.ntmps63
  go_wp2
  go_ret
  exact ⟨rfl, rfl⟩
theorem ninf_any (w : World) :
    Calls Try.prog 63 #[.int .i64 (-1)] w fun e w' => e = .returned (.float .f64 18442240474082181120) ∧ w = w' := by
  go_enter Try.func63, Try.ntmps63
  go_wp2
  go_ret
  exact ⟨rfl, rfl⟩

theorem up_any (b : Nat) (hb : b < 18446744073709551616) (w : World) :
    Calls Try.prog 42 #[.float .f64 b] w fun e w' => e = .returned (.float .f64 (upOf b)) ∧ w = w' := by
  have hi := isInf_pos b hb
  cases hn : isnan b with
  | true =>
    have hr := Lib.hid (show upOf b = 9221120237041090561 by simp [upOf, hn])
    clear hi
    go_enter Try.func42, Try.ntmps42
    go_wp2_with fail
    refine (ofReal_any _ hb _).mono ?_
    rintro e w' ⟨rfl, rfl⟩
    go_wp2_with fail
    refine (nan_any _).mono ?_
    rintro e w' ⟨rfl, rfl⟩
    go_wp2_with fail
    go_ret
    exact ⟨ret_float hr.out.symm, rfl⟩
  | false =>
    by_cases h : b = 9218868437227405312
    · rw [decide_eq_true h] at hi
      have hr := Lib.hid (show upOf b = 9221120237041090561 by simp [upOf, h])
      clear h
      go_enter Try.func42, Try.ntmps42
      go_wp2_with fail
      refine (ofReal_any _ hb _).mono ?_
      rintro e w' ⟨rfl, rfl⟩
      go_wp2_with fail
      refine (inf_any _).mono ?_
      rintro e w' ⟨rfl, rfl⟩
      go_wp2_with fail
      refine (nan_any _).mono ?_
      rintro e w' ⟨rfl, rfl⟩
      go_wp2_with fail
      go_ret
      exact ⟨ret_float hr.out.symm, rfl⟩
    · rw [decide_eq_false h] at hi
      obtain ⟨r1, r2, r3, r4⟩ := ofReal_range b hb hn
      have r5 := r3 h
      have hr := Lib.hid (show upOf b = realOf (ofReal b + 1) by simp [upOf, hn, h])
      clear h r2 r3 r4
      go_enter Try.func42, Try.ntmps42
      go_wp2_with fail
      refine (ofReal_any _ hb _).mono ?_
      rintro e w' ⟨rfl, rfl⟩
      go_wp2_with fail
      refine (inf_any _).mono ?_
      rintro e w' ⟨rfl, rfl⟩
      go_wp2_with fail
      refine (real_any _ (by omega) (by omega) _).mono ?_
      rintro e w' ⟨rfl, rfl⟩
      go_wp2_with fail
      go_ret
      exact ⟨ret_float hr.out.symm, rfl⟩

theorem up_ref (b : Nat) (hb : b < 18446744073709551616) (w : World) :
    Calls Try.prog 50 #[.float .f64 b] w fun e w' => e = .returned (.float .f64 (upOf b)) ∧ w = w' := by
  cases hn : isnan b with
  | true =>
    have hr := Lib.hid (show upOf b = 9221120237041090561 by simp [upOf, hn])
    go_enter Try.func50, Try.ntmps50
    go_wp2_with fail
    refine (nan_ref _ _).mono ?_
    rintro e w' ⟨rfl, rfl⟩
    go_wp2_with fail
    refine (nan_any _).mono ?_
    rintro e w' ⟨rfl, rfl⟩
    go_wp2_with fail
    go_ret
    exact ⟨ret_float hr.out.symm, rfl⟩
  | false =>
    have hi := gt_max b hb hn
    by_cases h : b = 9218868437227405312
    · rw [decide_eq_true h] at hi
      have hr := Lib.hid (show upOf b = 9221120237041090561 by simp [upOf, h])
      clear h
      go_enter Try.func50, Try.ntmps50
      go_wp2_with fail
      refine (nan_ref _ _).mono ?_
      rintro e w' ⟨rfl, rfl⟩
      go_wp2_with fail
      refine (nan_any _).mono ?_
      rintro e w' ⟨rfl, rfl⟩
      go_wp2_with fail
      go_ret
      exact ⟨ret_float hr.out.symm, rfl⟩
    · rw [decide_eq_false h] at hi
      obtain ⟨r1, r2, r3, r4⟩ := ofReal_range b hb hn
      have r5 := r3 h
      have hr := Lib.hid (show upOf b = realOf (ofReal b + 1) by simp [upOf, hn, h])
      clear h r2 r3 r4
      go_enter Try.func50, Try.ntmps50
      go_wp2_with fail
      refine (nan_ref _ _).mono ?_
      rintro e w' ⟨rfl, rfl⟩
      go_wp2_with fail
      refine (ofReal_ref _ hb _).mono ?_
      rintro e w' ⟨rfl, rfl⟩
      go_wp2_with fail
      refine (real_ref _ (by omega) (by omega) _).mono ?_
      rintro e w' ⟨rfl, rfl⟩
      go_wp2_with fail
      go_ret
      exact ⟨ret_float hr.out.symm, rfl⟩

theorem down_any (b : Nat) (hb : b < 18446744073709551616) (w : World) :
    Calls Try.prog 43 #[.float .f64 b] w fun e w' => e = .returned (.float .f64 (downOf b)) ∧ w = w' := by
  have hi := isInf_neg b hb
  cases hn : isnan b with
  | true =>
    have hr := Lib.hid (show downOf b = 9218868437227405312 by simp [downOf, hn])
    clear hi
    go_enter Try.func43, Try.ntmps43
    go_wp2_with fail
    refine (inf_any _).mono ?_
    rintro e w' ⟨rfl, rfl⟩
    go_wp2_with fail
    go_ret
    exact ⟨ret_float hr.out.symm, rfl⟩
  | false =>
    by_cases h : b = 18442240474082181120
    · rw [decide_eq_true h] at hi
      have hr := Lib.hid (show downOf b = b by unfold downOf; rw [hn, if_neg (by simp), if_pos h])
      clear h
      go_enter Try.func43, Try.ntmps43
      go_wp2_with fail
      refine (ninf_any _).mono ?_
      rintro e w' ⟨rfl, rfl⟩
      go_wp2_with fail
      go_ret
      exact ⟨ret_float hr.out.symm, rfl⟩
    · rw [decide_eq_false h] at hi
      obtain ⟨r1, r2, r3, r4⟩ := ofReal_range b hb hn
      have r5 := r4 h
      have hr := Lib.hid (show downOf b = realOf (ofReal b - 1) by simp [downOf, hn, h])
      clear h r1 r3 r4
      go_enter Try.func43, Try.ntmps43
      go_wp2_with fail
      refine (ninf_any _).mono ?_
      rintro e w' ⟨rfl, rfl⟩
      go_wp2_with fail
      refine (ofReal_any _ hb _).mono ?_
      rintro e w' ⟨rfl, rfl⟩
      go_wp2_with fail
      refine (real_any _ (by omega) (by omega) _).mono ?_
      rintro e w' ⟨rfl, rfl⟩
      go_wp2_with fail
      go_ret
      exact ⟨ret_float hr.out.symm, rfl⟩

theorem down_ref (b : Nat) (hb : b < 18446744073709551616) (w : World) :
    Calls Try.prog 51 #[.float .f64 b] w fun e w' => e = .returned (.float .f64 (downOf b)) ∧ w = w' := by
  cases hn : isnan b with
  | true =>
    have hr := Lib.hid (show downOf b = 9218868437227405312 by simp [downOf, hn])
    go_enter Try.func51, Try.ntmps51
    go_wp2_with fail
    refine (nan_ref _ _).mono ?_
    rintro e w' ⟨rfl, rfl⟩
    go_wp2_with fail
    refine (inf_any _).mono ?_
    rintro e w' ⟨rfl, rfl⟩
    go_wp2_with fail
    go_ret
    exact ⟨ret_float hr.out.symm, rfl⟩
  | false =>
    have hi := lt_min b hb hn
    by_cases h : b = 18442240474082181120
    · rw [decide_eq_true h] at hi
      have hr := Lib.hid (show downOf b = b by unfold downOf; rw [hn, if_neg (by simp), if_pos h])
      clear h
      go_enter Try.func51, Try.ntmps51
      go_wp2_with fail
      refine (nan_ref _ _).mono ?_
      rintro e w' ⟨rfl, rfl⟩
      go_wp2_with fail
      go_ret
      exact ⟨ret_float hr.out.symm, rfl⟩
    · rw [decide_eq_false h] at hi
      obtain ⟨r1, r2, r3, r4⟩ := ofReal_range b hb hn
      have r5 := r4 h
      have hr := Lib.hid (show downOf b = realOf (ofReal b - 1) by simp [downOf, hn, h])
      clear h r1 r3 r4
      go_enter Try.func51, Try.ntmps51
      go_wp2_with fail
      refine (nan_ref _ _).mono ?_
      rintro e w' ⟨rfl, rfl⟩
      go_wp2_with fail
      refine (ofReal_ref _ hb _).mono ?_
      rintro e w' ⟨rfl, rfl⟩
      go_wp2_with fail
      refine (real_ref _ (by omega) (by omega) _).mono ?_
      rintro e w' ⟨rfl, rfl⟩
      go_wp2_with fail
      go_ret
      exact ⟨ret_float hr.out.symm, rfl⟩
end Go.Proofs.Ytconppelbjjkjaa
