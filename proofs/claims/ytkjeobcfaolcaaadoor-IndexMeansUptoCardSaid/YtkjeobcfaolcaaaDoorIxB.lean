/- A key's home, by contract. -/
import Derived.Test.YtkjeobcfaolcaaaDoorIxA
namespace Go.Proofs.YtkjeobcfaolcaaaDoor
open Go.RowKit
set_option maxHeartbeats 2000000
set_option linter.unusedVariables false
set_option linter.unusedSimpArgs false

theorem ctz_pow : ∀ k, k < 64 → Lib.ctz 64 (2 ^ k) = k := by decide
/-- a key's home among 2^k slots -/
def homeOf (key : Int) (k : Nat) : Int := IntKind.u64.wrap (key * 11400714819323198485) / 2 ^ (64 - k)
theorem homeOf_bd (key : Int) {k : Nat} (h1 : 1 ≤ k) (h2 : k ≤ 62) : 0 ≤ homeOf key k ∧ homeOf key k < 2 ^ k := by
  unfold homeOf
  have h0 : 0 ≤ IntKind.u64.wrap (key * 11400714819323198485) ∧ IntKind.u64.wrap (key * 11400714819323198485) < 18446744073709551616 := by rw [IntKind.wrap_u64]; omega
  generalize IntKind.u64.wrap (key * 11400714819323198485) = h at *
  have hp : (0 : Int) < 2 ^ (64 - k) := Int.pow_pos (by decide)
  refine ⟨Int.ediv_nonneg h0.1 (Int.le_of_lt hp), Int.ediv_lt_of_lt_mul hp ?_⟩
  rw [← Int.pow_add]
  rw [show k + (64 - k) = 64 by omega]
  omega
theorem home_b {key : Int} {k : Nat} {w : World} (h1 : 1 ≤ k) (h2 : k ≤ 62) (hT : Tab w) : Calls Tryd.prog 42 #[.int .u64 key, .int .i64 ((2 ^ k : Nat) : Int)] w fun e w' => e = .returned (.int .i64 (homeOf key k)) ∧ w = w' := by
  have hp : 2 ^ k < 18446744073709551616 := Nat.lt_of_le_of_lt (Nat.pow_le_pow_right (by omega) h2) (by decide)
  have hp0 : 2 ^ k ≠ 0 := by have := Nat.two_pow_pos k; omega
  have C := tz_b hp hp0 hT
  rw [ctz_pow k (by omega)] at C
  have C := Lib.hid C
  have hbd := homeOf_bd key h1 h2
  have hq : (2 : Int) ^ k ≤ 4611686018427387904 := by
    have : 2 ^ k ≤ 2 ^ 62 := Nat.pow_le_pow_right (by omega) h2
    have h3 : ((2 ^ k : Nat) : Int) ≤ ((2 ^ 62 : Nat) : Int) := by omega
    simpa using h3
  have hwr : wrap64 (IntKind.u64.wrap (key * 11400714819323198485) / 2 ^ (64 - k)) = IntKind.u64.wrap (key * 11400714819323198485) / 2 ^ (64 - k) := by
    show wrap64 (homeOf key k) = homeOf key k
    exact IntWalk.wrap64_in _ (by omega)
  have hwx : IntKind.u64.wrap ((2 ^ k : Nat) : Int) = ((2 ^ k : Nat) : Int) := by
    generalize 2 ^ k = sl at *
    rw [IntKind.wrap_u64]; omega
  have hk1 : (1 : Int) ≤ k := by omega
  have hk2 : (k : Int) ≤ 62 := by omega
  clear hp hp0 hT hbd hq
  generalize 2 ^ k = sl at *
  go_enter Tryd.func42, Tryd.ntmps42
  go_wp2_with fail
  refine C.out.mono ?_
  rintro _ w2 ⟨rfl, rfl⟩
  go_wp2
  go_ret
  refine ⟨?_, rfl⟩
  show Ending.returned (.int .i64 (wrap64 (IntKind.u64.wrap (key * 11400714819323198485) / 2 ^ (64 - k)))) = _
  first | (rw [hwr]; rfl) | rfl
end Go.Proofs.YtkjeobcfaolcaaaDoor
