/- The bits of a float and back, NaN, and the comparisons of floats in plain words, for the walks. -/
import Derived.Test.YtconppelbjjkjaaRows
import Derived.Test.YtconppelbjjkjaaFloat
import Derived.Test.YtconppelbjjkjaaBits
import Derived.WalkKit
import Derived.WalkSpells
import Derived.WalkLawsBesides
namespace Go.Proofs.Ytconppelbjjkjaa
open Go.RowKit

theorem ret_int {k : IntKind} {a b : Int} (h : a = b) : Ending.returned (.int k a) = .returned (.int k b) := by rw [h]
theorem ret_bool {a b : Bool} (h : a = b) : Ending.returned (.bool a) = .returned (.bool b) := by rw [h]
theorem ret_float {k : FloatKind} {a b : Nat} (h : a = b) : Ending.returned (.float k a) = .returned (.float k b) := by rw [h]
theorem ret_ii {k l : IntKind} {a b c d : Int} (h : a = b) (h' : c = d) : Ending.returned (.tuple #[.int k a, .int l c]) = .returned (.tuple #[.int k b, .int l d]) := by rw [h, h']
theorem ret_ib {k : IntKind} {a b : Int} {c d : Bool} (h : a = b) (h' : c = d) : Ending.returned (.tuple #[.int k a, .bool c]) = .returned (.tuple #[.int k b, .bool d]) := by rw [h, h']
theorem ret_fb {k : FloatKind} {a b : Nat} {c d : Bool} (h : a = b) (h' : c = d) : Ending.returned (.tuple #[.float k a, .bool c]) = .returned (.tuple #[.float k b, .bool d]) := by rw [h, h']

/-- a < b, of two doubles. -/
def fLt (a b : Nat) : Bool := !isnan a && !isnan b && decide (sr a < sr b)
/-- a == b, of two doubles. -/
def fEq (a b : Nat) : Bool := !isnan a && !isnan b && decide (sr a = sr b)

theorem order64 (a b : Nat) : FloatKind.f64.format.order a b = if isnan a || isnan b then none else some (compare (sr a) (sr b)) := order_double a b

@[go_sem] theorem u64_signed : IntKind.u64.signed = false := rfl
@[go_sem] theorem u64_max : IntKind.u64.max = 18446744073709551615 := rfl

@[go_sem] theorem ord_self (a : Nat) : (FloatKind.f64.format.order a a != some .eq) = isnan a := by
  rw [order64, cmp_int]
  cases h : isnan a <;> simp
@[go_sem] theorem ord_lt (a b : Nat) : (FloatKind.f64.format.order a b == some .lt) = fLt a b := by
  rw [order64, cmp_int]
  unfold fLt
  cases h : isnan a <;> cases h' : isnan b <;> simp
  by_cases h1 : sr a < sr b
  · simp [h1]
  · by_cases h2 : sr a = sr b <;> simp [h1, h2]
@[go_sem] theorem ord_gt (a b : Nat) : (FloatKind.f64.format.order a b == some .gt) = fLt b a := by
  rw [order64, cmp_int]
  unfold fLt
  cases h : isnan a <;> cases h' : isnan b <;> simp
  by_cases h1 : sr a < sr b
  · have : ¬ sr b < sr a := by omega
    simp [h1, this]
  · by_cases h2 : sr a = sr b
    · simp [h2]
    · have : sr b < sr a := by omega
      simp [h1, h2, this]
@[go_sem] theorem ord_eq (a b : Nat) : (FloatKind.f64.format.order a b == some .eq) = fEq a b := by
  rw [order64, cmp_int]
  unfold fEq
  cases h : isnan a <;> cases h' : isnan b <;> simp
  by_cases h1 : sr a < sr b
  · have : ¬ sr a = sr b := by omega
    simp [h1, this]
  · by_cases h2 : sr a = sr b
    · simp [h2]
    · simp [h1, h2]
@[go_sem] theorem ord_ne (a b : Nat) : (FloatKind.f64.format.order a b != some .eq) = !fEq a b := by
  rw [← ord_eq]; rfl

@[go_sem] theorem run_frombits (x : Int) (w : World) : (callFunc 16 #[.int .u64 x]).run Try.prog w = .ok (.value (.float .f64 x.toNat)) w :=
  run_callFunc_extern (fn := Try.f16) (e := Extern.MathFloatBits.float64frombits) (by kernel_rfl) (by kernel_rfl) (by kernel_rfl) (by kernel_rfl) (by kernel_rfl) #[.int .u64 x] w
@[go_sem] theorem run_bits (b : Nat) (w : World) : (callFunc 54 #[.float .f64 b]).run Try.prog w = .ok (.value (.int .u64 b)) w :=
  run_callFunc_extern (fn := Try.f54) (e := Extern.MathFloatBits.float64bits) (by kernel_rfl) (by kernel_rfl) (by kernel_rfl) (by kernel_rfl) (by kernel_rfl) #[.float .f64 b] w

set_option maxHeartbeats 400000 in
theorem nan_any (w : World) :
    Calls Try.prog 52 #[] w fun e w' => e = .returned (.float .f64 9221120237041090561) ∧ w = w' := by
  go_enter Try.func52, Try.ntmps52
  go_wp2
  go_ret
  exact ⟨rfl, rfl⟩
end Go.Proofs.Ytconppelbjjkjaa
