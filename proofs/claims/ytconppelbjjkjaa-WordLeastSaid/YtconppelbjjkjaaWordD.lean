/- Comparisons, the next number, middles: by their contracts. -/
import Derived.Test.YtconppelbjjkjaaWordC
namespace Go.Proofs.Ytconppelbjjkjaa
open Go.RowKit
set_option maxHeartbeats 400000

def cmp3 (x y : Int) : Int := if x < y then -1 else if y < x then 1 else 0

theorem cmpU_any (x y : Int) (w : World) :
    Calls Try.prog 56 #[.int .u64 x, .int .u64 y] w fun e w' => e = .returned (.int .i64 (cmp3 x y)) ∧ w = w' := by
  by_cases c1 : x < y
  · have hr := Lib.hid (show cmp3 x y = -1 by simp [cmp3, c1])
    go_enter Try.func56, Try.ntmps56
    go_wp2
    go_ret
    exact ⟨ret_int hr.out.symm, rfl⟩
  · by_cases c2 : y < x
    · have hr := Lib.hid (show cmp3 x y = 1 by simp [cmp3, c1, c2])
      go_enter Try.func56, Try.ntmps56
      go_wp2
      go_ret
      exact ⟨ret_int hr.out.symm, rfl⟩
    · have hr := Lib.hid (show cmp3 x y = 0 by simp [cmp3, c1, c2])
      go_enter Try.func56, Try.ntmps56
      go_wp2
      go_ret
      exact ⟨ret_int hr.out.symm, rfl⟩

theorem compare_any (a b : Nat) (ha : a < 18446744073709551616) (hb : b < 18446744073709551616) (w : World) :
    Calls Try.prog 24 #[.float .f64 a, .float .f64 b] w fun e w' => e = .returned (.int .i64 (cmp3 (ofReal a) (ofReal b))) ∧ w = w' := by
  go_enter Try.func24, Try.ntmps24
  go_wp2_with fail
  refine (ofReal_any _ ha _).mono ?_
  rintro e w' ⟨rfl, rfl⟩
  go_wp2_with fail
  refine (ofReal_any _ hb _).mono ?_
  rintro e w' ⟨rfl, rfl⟩
  go_wp2_with fail
  refine (cmpU_any _ _ _).mono ?_
  rintro e w' ⟨rfl, rfl⟩
  go_wp2_with fail
  go_ret
  exact ⟨rfl, rfl⟩

theorem same_any (a b : Nat) (ha : a < 18446744073709551616) (hb : b < 18446744073709551616) (w : World) :
    Calls Try.prog 25 #[.float .f64 a, .float .f64 b] w fun e w' => e = .returned (.bool (ofReal a == ofReal b)) ∧ w = w' := by
  go_enter Try.func25, Try.ntmps25
  go_wp2_with fail
  refine (ofReal_any _ ha _).mono ?_
  rintro e w' ⟨rfl, rfl⟩
  go_wp2_with fail
  refine (ofReal_any _ hb _).mono ?_
  rintro e w' ⟨rfl, rfl⟩
  go_wp2_with fail
  go_ret
  exact ⟨rfl, rfl⟩

def alike (a b : Nat) : Bool := isnan a && isnan b || (a : Int) == b

theorem alike_any (a b : Nat) (w : World) :
    Calls Try.prog 14 #[.float .f64 a, .float .f64 b] w fun e w' => e = .returned (.bool (alike a b)) ∧ w = w' := by
  cases h1 : isnan a <;> cases h2 : isnan b
  all_goals
    have hr := Lib.hid (show alike a b = (isnan a && isnan b || (a : Int) == b) from rfl)
    go_enter Try.func14, Try.ntmps14
    go_wp2_with (go_at_call 53; refine (nan_ref _ _).mono ?_; rintro e w' ⟨rfl, rfl⟩)
    go_ret
    exact ⟨ret_bool (by rw [hr.out, h1, h2]; rfl), rfl⟩

def mid (x y : Int) : Int := if y < x then y + (x - y) / 2 else x + (y - x) / 2

theorem middle_any (x y : Int) (h0 : 0 ≤ x) (h1 : x ≤ 18446744073709551615) (h2 : 0 ≤ y) (h3 : y ≤ 18446744073709551615) (w : World) :
    Calls Try.prog 29 #[.int .u64 x, .int .u64 y] w fun e w' => e = .returned (.int .u64 (mid x y)) ∧ w = w' := by
  by_cases c : y < x
  · have hr := Lib.hid (show mid x y = y + (x - y) / 2 by simp [mid, c])
    go_enter Try.func29, Try.ntmps29
    go_wp2
    go_ret
    exact ⟨ret_int hr.out.symm, rfl⟩
  · have hr := Lib.hid (show mid x y = x + (y - x) / 2 by simp [mid, c])
    go_enter Try.func29, Try.ntmps29
    go_wp2
    go_ret
    exact ⟨ret_int hr.out.symm, rfl⟩
theorem middle_ref (x y : Int) (h0 : 0 ≤ x) (h1 : x ≤ 18446744073709551615) (h2 : 0 ≤ y) (h3 : y ≤ 18446744073709551615) (w : World) :
    Calls Try.prog 30 #[.int .u64 x, .int .u64 y] w fun e w' => e = .returned (.int .u64 (mid x y)) ∧ w = w' := by
  by_cases c : y < x
  · have hr := Lib.hid (show mid x y = y + (x - y) / 2 by simp [mid, c])
    go_enter Try.func30, Try.ntmps30
    go_wp2
    all_goals go_ret
    all_goals exact ⟨ret_int hr.out.symm, rfl⟩
  · by_cases c2 : x < y
    · have hr := Lib.hid (show mid x y = x + (y - x) / 2 by simp [mid, c])
      go_enter Try.func30, Try.ntmps30
      go_wp2
      all_goals go_ret
      all_goals exact ⟨ret_int hr.out.symm, rfl⟩
    · obtain rfl : x = y := by omega
      have hr := Lib.hid (show mid x x = x by simp [mid])
      clear c c2
      go_enter Try.func30, Try.ntmps30
      go_wp2
      all_goals go_ret
      all_goals exact ⟨ret_int hr.out.symm, rfl⟩

theorem negzero_any (w : World) :
    Calls Try.prog 55 #[.float .f64 0, .float .f64 13830554455654793216] w fun e w' => e = .returned (.float .f64 9223372036854775808) ∧ w = w' := by
  have hr := Lib.hid (show (bits BinOp.or IntKind.u64 (bits BinOp.andNot IntKind.u64 0 9223372036854775808) (bits BinOp.and IntKind.u64 13830554455654793216 9223372036854775808)).toNat = 9223372036854775808 by decide)
  go_enter Try.func55, Try.ntmps55
  go_wp2
  go_ret
  exact ⟨ret_float hr.out, rfl⟩

theorem known_any (w : World) :
    Calls Try.prog 15 #[] w fun e w' => e = .returned (.bool true) ∧ w = w' := by
  have k1 : realOf 13830554455654793216 = 4607182418800017408 := by decide
  have k2 : realIs 13830554455654793216 = true := by decide
  have k3 : ofInt (-1) = 9223372036854775807 := by decide
  have k4 : cmp3 (ofReal 9223372036854775808) (ofReal 0) = -1 := by decide
  have k5 : fEq 4607182418800017408 4607182418800017408 = true := by decide
  go_enter Try.func15, Try.ntmps15
  go_wp2_with fail
  refine (real_any _ (by omega) (by omega) _).mono ?_
  rintro e w' ⟨rfl, rfl⟩
  go_wp2_with fail
  refine (pair_any _ (by omega) (by omega) _).mono ?_
  rintro e w' ⟨rfl, rfl⟩
  go_wp2_with fail
  refine (ofInt_any _ (by omega) (by omega) _).mono ?_
  rintro e w' ⟨rfl, rfl⟩
  go_wp2_with fail
  refine (int_any _ (by omega) (by omega) _).mono ?_
  rintro e w' ⟨rfl, rfl⟩
  go_wp2_with fail
  refine (negzero_any _).mono ?_
  rintro e w' ⟨rfl, rfl⟩
  go_wp2_with fail
  refine (compare_any _ _ (by omega) (by omega) _).mono ?_
  rintro e w' ⟨rfl, rfl⟩
  go_wp2_with fail
  go_ret
  exact ⟨rfl, rfl⟩
end Go.Proofs.Ytconppelbjjkjaa
