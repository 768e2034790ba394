/- More of the word functions by their contracts: whole numbers, pairs, comparisons, middles. -/
import Derived.Test.YtconppelbjjkjaaWordB
namespace Go.Proofs.Ytconppelbjjkjaa
open Go.RowKit
set_option maxHeartbeats 400000

/-- the word of a whole number -/
def ofInt (x : Int) : Int := x + 9223372036854775808
/-- the word of a pair -/
def ofPair (a b : Int) : Int := (a + 2147483648) * 4294967296 + (b + 2147483648)

theorem wrap_u64_mod (x : Int) : IntKind.u64.wrap x = x % 18446744073709551616 := IntKind.wrap_u64 x

theorem ofInt_any (x : Int) (h0 : -9223372036854775808 ≤ x) (h1 : x ≤ 9223372036854775807) (w : World) :
    Calls Try.prog 22 #[.int .i64 x] w fun e w' => e = .returned (.int .u64 (ofInt x)) ∧ w = w' := by
  have hr : Hid (bits .xor .u64 (IntKind.u64.wrap x) 9223372036854775808 = ofInt x) := by
    have := u64_xor_high (IntKind.u64.wrap x) (by rw [wrap_u64_mod]; omega) (by rw [wrap_u64_mod]; omega)
    refine Lib.hid (this.trans ?_)
    rw [wrap_u64_mod]; unfold ofInt; split <;> omega
  go_enter Try.func22, Try.ntmps22
  go_wp2
  go_ret
  exact ⟨ret_int hr.out, rfl⟩

theorem int_any (x : Int) (h0 : 0 ≤ x) (h1 : x ≤ 18446744073709551615) (w : World) :
    Calls Try.prog 21 #[.int .u64 x] w fun e w' => e = .returned (.int .i64 (x - 9223372036854775808)) ∧ w = w' := by
  have hr : Hid (wrap64 (bits .xor .u64 x 9223372036854775808) = x - 9223372036854775808) := by
    have := u64_xor_high x h0 h1
    refine Lib.hid ?_
    rw [this]; unfold wrap64; split <;> omega
  go_enter Try.func21, Try.ntmps21
  go_wp2
  go_ret
  exact ⟨ret_int hr.out, rfl⟩

theorem ofInt_ref (x : Int) (h0 : -9223372036854775808 ≤ x) (h1 : x ≤ 9223372036854775807) (w : World) :
    Calls Try.prog 26 #[.int .i64 x] w fun e w' => e = .returned (.int .u64 (ofInt x)) ∧ w = w' := by
  have hr : Hid (IntKind.u64.wrap (IntKind.u64.wrap x + 9223372036854775808) = ofInt x) := by
    refine Lib.hid ?_
    rw [wrap_u64_mod, wrap_u64_mod]; unfold ofInt; omega
  go_enter Try.func26, Try.ntmps26
  go_wp2
  go_ret
  exact ⟨ret_int hr.out, rfl⟩

theorem int_ref (x : Int) (h0 : 0 ≤ x) (h1 : x ≤ 18446744073709551615) (w : World) :
    Calls Try.prog 27 #[.int .u64 x] w fun e w' => e = .returned (.int .i64 (x - 9223372036854775808)) ∧ w = w' := by
  have hr : Hid (wrap64 (IntKind.u64.wrap (x - 9223372036854775808)) = x - 9223372036854775808) := by
    refine Lib.hid ?_
    rw [wrap_u64_mod]; unfold wrap64; omega
  go_enter Try.func27, Try.ntmps27
  go_wp2
  go_ret
  exact ⟨ret_int hr.out, rfl⟩

theorem half_word (a : Int) (h0 : -2147483648 ≤ a) (h1 : a ≤ 2147483647) : IntKind.u64.wrap (bits .xor .u32 (a % 4294967296) 2147483648) = a + 2147483648 := by
  rw [wrap_u64_mod, u32_xor_high _ (by omega) (by omega)]
  split <;> omega

theorem ofPair_any (a b : Int) (h0 : -2147483648 ≤ a) (h1 : a ≤ 2147483647) (h2 : -2147483648 ≤ b) (h3 : b ≤ 2147483647) (w : World) :
    Calls Try.prog 19 #[.int .i32 a, .int .i32 b] w fun e w' => e = .returned (.int .u64 (ofPair a b)) ∧ w = w' := by
  have hr : Hid (bits BinOp.or IntKind.u64 (IntKind.u64.wrap (IntKind.u64.wrap (bits BinOp.xor IntKind.u32 (a % 4294967296) 2147483648) * 4294967296)) (IntKind.u64.wrap (bits BinOp.xor IntKind.u32 (b % 4294967296) 2147483648)) = ofPair a b) := by
    refine Lib.hid ?_
    rw [half_word a h0 h1, half_word b h2 h3, wrap_u64_mod, Int.emod_eq_of_lt (by omega) (by omega), u64_join _ _ (by omega) (by omega) (by omega) (by omega) (by omega)]
    rfl
  go_enter Try.func19, Try.ntmps19
  go_wp2
  go_ret
  exact ⟨ret_int hr.out, rfl⟩

theorem back_half (x : Int) (h0 : 0 ≤ x) (h1 : x ≤ 4294967295) : wrap32 (bits .xor .u32 x 2147483648) = x - 2147483648 := by
  rw [u32_xor_high _ h0 h1]; unfold wrap32
  split <;> omega

theorem pair_any (x : Int) (h0 : 0 ≤ x) (h1 : x ≤ 18446744073709551615) (w : World) :
    Calls Try.prog 18 #[.int .u64 x] w fun e w' => e = .returned (.tuple #[.int .i32 (x / 4294967296 - 2147483648), .int .i32 (x % 4294967296 - 2147483648)]) ∧ w = w' := by
  have hr := Lib.hid (And.intro (back_half (x / 4294967296) (by omega) (by omega)) (back_half (x % 4294967296) (by omega) (by omega)))
  go_enter Try.func18, Try.ntmps18
  go_wp2
  go_ret2
  exact ⟨ret_ii hr.out.1 hr.out.2, rfl⟩

theorem ofPair_ref (a b : Int) (h0 : -2147483648 ≤ a) (h1 : a ≤ 2147483647) (h2 : -2147483648 ≤ b) (h3 : b ≤ 2147483647) (w : World) :
    Calls Try.prog 28 #[.int .i32 a, .int .i32 b] w fun e w' => e = .returned (.int .u64 (ofPair a b)) ∧ w = w' := by
  go_enter Try.func28, Try.ntmps28
  go_wp2
  go_ret
  exact ⟨ret_int rfl, rfl⟩
end Go.Proofs.Ytconppelbjjkjaa
