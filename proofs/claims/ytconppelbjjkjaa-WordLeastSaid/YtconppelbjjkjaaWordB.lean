/- What the word functions compute, each by its contract. -/
import Derived.Test.YtconppelbjjkjaaWordA
import Derived.Lib.Hide
namespace Go.Proofs.Ytconppelbjjkjaa
open Go.RowKit

/-- The word of a double (by its bits). -/
def ofReal (b : Nat) : Int := if isnan b then 18446744073709551615 else if b < 9223372036854775808 then b + 9223372036854775808 else 18446744073709551615 - b
/-- The bits that a word stands for, before it is asked whether they are a number's. -/
def rawOf (x : Int) : Nat := if 9223372036854775808 ≤ x then (x - 9223372036854775808).toNat else (18446744073709551615 - x).toNat
/-- The double of a word; is there one? -/
def realOf (x : Int) : Nat := if x = 18446744073709551615 then 9221120237041090561 else if isnan (rawOf x) then 0 else rawOf x
def realIs (x : Int) : Bool := if x = 18446744073709551615 then true else !isnan (rawOf x)

theorem isnan_low (b : Nat) (h : b < 9223372036854775808) : isnan b = decide (9218868437227405312 < b) := by
  unfold isnan; rw [Nat.mod_eq_of_lt h]
theorem isnan_high (b : Nat) (h : 9223372036854775808 ≤ b) (h2 : b < 18446744073709551616) : isnan b = decide (18442240474082181120 < b) := by
  unfold isnan
  rw [Bool.eq_iff_iff]; simp only [decide_eq_true_eq]; omega

set_option maxHeartbeats 400000

theorem ofReal_any (b : Nat) (hb : b < 18446744073709551616) (w : World) :
    Calls Try.prog 17 #[.float .f64 b] w fun e w' => e = .returned (.int .u64 (ofReal b)) ∧ w = w' := by
  cases hn : isnan b with
  | true =>
    go_enter Try.func17, Try.ntmps17
    go_wp2
    go_ret
    exact ⟨ret_int (by simp [ofReal, hn]), rfl⟩
  | false =>
    have ha := u64_and_high b (by omega) (by omega)
    by_cases hlo : b < 9223372036854775808
    · rw [decide_eq_false (by omega)] at ha
      go_enter Try.func17, Try.ntmps17
      go_wp2
      go_ret
      exact ⟨ret_int (by simp only [ofReal, hn]; rw [if_neg (by simp), if_pos hlo]; exact u64_or_high b (by omega) (by omega)), rfl⟩
    · rw [decide_eq_true (by omega)] at ha
      go_enter Try.func17, Try.ntmps17
      go_wp2
      go_ret
      exact ⟨ret_int (by simp only [ofReal, hn]; rw [if_neg (by simp), if_neg hlo]; exact u64_not b (by omega) (by omega)), rfl⟩

theorem nan_ref (b : Nat) (w : World) :
    Calls Try.prog 53 #[.float .f64 b] w fun e w' => e = .returned (.bool (isnan b)) ∧ w = w' := by
  go_enter Try.func53, Try.ntmps53
  go_wp2
  go_ret
  exact ⟨rfl, rfl⟩

theorem ofReal_ref (b : Nat) (hb : b < 18446744073709551616) (w : World) :
    Calls Try.prog 48 #[.float .f64 b] w fun e w' => e = .returned (.int .u64 (ofReal b)) ∧ w = w' := by
  cases hn : isnan b with
  | true =>
    go_enter Try.func48, Try.ntmps48
    go_wp2_with (go_at_call 53; refine (nan_ref _ _).mono ?_; rintro e w' ⟨rfl, rfl⟩)
    go_ret
    exact ⟨ret_int (by simp [ofReal, hn]), rfl⟩
  | false =>
    by_cases hlo : b < 9223372036854775808
    · have hd : decide ((b : Int) < 9223372036854775808) = true := by simp; omega
      have hr := Lib.hid (show ofReal b = (b : Int) + 9223372036854775808 by simp [ofReal, hn, hlo])
      go_enter Try.func48, Try.ntmps48
      go_wp2_with (go_at_call 53; refine (nan_ref _ _).mono ?_; rintro e w' ⟨rfl, rfl⟩)
      go_ret
      exact ⟨ret_int hr.out.symm, rfl⟩
    · have hd : decide ((b : Int) < 9223372036854775808) = false := by simp; omega
      have hr := Lib.hid (show ofReal b = 18446744073709551615 - (b : Int) by simp [ofReal, hn, hlo])
      go_enter Try.func48, Try.ntmps48
      go_wp2_with (go_at_call 53; refine (nan_ref _ _).mono ?_; rintro e w' ⟨rfl, rfl⟩)
      go_ret
      exact ⟨ret_int hr.out.symm, rfl⟩

theorem real_any (x : Int) (h0 : 0 ≤ x) (h1 : x ≤ 18446744073709551615) (w : World) :
    Calls Try.prog 12 #[.int .u64 x] w fun e w' => e = .returned (.tuple #[.float .f64 (realOf x), .bool (realIs x)]) ∧ w = w' := by
  by_cases hx : x = 18446744073709551615
  · subst hx
    go_enter Try.func12, Try.ntmps12
    go_wp2_with (go_at_call 52; refine (nan_any _).mono ?_; rintro e w' ⟨rfl, rfl⟩)
    go_ret2
    exact ⟨ret_fb rfl rfl, rfl⟩
  · have hne : (x == 18446744073709551615) = false := by simpa using hx
    have ha := u64_and_high x h0 h1
    by_cases hlo : 9223372036854775808 ≤ x
    · rw [decide_eq_true hlo] at ha
      have hc := u64_clear_high x hlo h1
      cases hn : isnan (x - 9223372036854775808).toNat with
      | true =>
        have hr := Lib.hid (show 0 = realOf x ∧ false = realIs x by simp [realOf, realIs, rawOf, hx, hlo, hn])
        go_enter Try.func12, Try.ntmps12
        go_wp2
        go_ret2
        exact ⟨ret_fb hr.out.1 hr.out.2, rfl⟩
      | false =>
        have hr := Lib.hid (show (x - 9223372036854775808).toNat = realOf x ∧ true = realIs x by simp [realOf, realIs, rawOf, hx, hlo, hn])
        go_enter Try.func12, Try.ntmps12
        go_wp2
        go_ret2
        exact ⟨ret_fb hr.out.1 hr.out.2, rfl⟩
    · rw [decide_eq_false hlo] at ha
      have hc := u64_not x h0 h1
      cases hn : isnan (18446744073709551615 - x).toNat with
      | true =>
        have hr := Lib.hid (show 0 = realOf x ∧ false = realIs x by simp [realOf, realIs, rawOf, hx, hlo, hn])
        go_enter Try.func12, Try.ntmps12
        go_wp2
        go_ret2
        exact ⟨ret_fb hr.out.1 hr.out.2, rfl⟩
      | false =>
        have hr := Lib.hid (show (18446744073709551615 - x).toNat = realOf x ∧ true = realIs x by simp [realOf, realIs, rawOf, hx, hlo, hn])
        go_enter Try.func12, Try.ntmps12
        go_wp2
        go_ret2
        exact ⟨ret_fb hr.out.1 hr.out.2, rfl⟩
end Go.Proofs.Ytconppelbjjkjaa
