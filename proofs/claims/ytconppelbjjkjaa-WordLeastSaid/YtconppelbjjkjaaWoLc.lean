/- ahead, by contract: of short floats, of whole numbers. -/
import Derived.Test.YtconppelbjjkjaaWoLa
import Derived.Test.YtconppelbjjkjaaFloat32
namespace Go.Proofs.Ytconppelbjjkjaa
open Go.RowKit Ieee
set_option maxHeartbeats 4000000
set_option linter.unusedVariables false
set_option linter.unusedSimpArgs false

/-- a short float and the long one made of it -/
def Wide (p p' : Nat) : Prop := p < 4294967296 ∧ p' < 18446744073709551616 ∧ Like (single.read p) (double.read p')
theorem wide0 : Wide 0 0 := ⟨by decide, by decide, by
  rw [read32_num 0 (by decide), read_num 0 (by decide)]
  exact ⟨rfl, _, _, rfl, rfl, by rw [show mag32 (0 % 2147483648) = 0 from rfl, show magOf (0 % 9223372036854775808) = 0 from rfl, Nat.zero_mul, Nat.zero_mul]⟩⟩
theorem wide_zero {p p' : Nat} (h : Wide p p') (hz : p' = 0 ∨ p' = 9223372036854775808) : (p = 0 ∧ p' = 0) ∨ (p = 2147483648 ∧ p' = 9223372036854775808) := by
  obtain ⟨h1, h2, h3⟩ := h
  have n0 : isnan p' = false := by rcases hz with rfl | rfl <;> rfl
  have hn := like_nan h3
  rw [n0] at hn
  have hn : p % 2147483648 ≤ 2139095040 := by simpa [nan32] using hn
  have hp' : p' % 9223372036854775808 = 0 := by rcases hz with rfl | rfl <;> rfl
  rw [read_num p' (by omega), hp'] at h3
  by_cases hi : p % 2147483648 = 2139095040
  · rw [read32_inf p hi] at h3; exact h3.elim
  · rw [read32_num p (by omega)] at h3
    obtain ⟨e1, a, b, e2, e3, e4⟩ := h3
    have hm : mag32 (p % 2147483648) = 0 := by
      have e5 : magOf 0 = 0 := rfl
      rw [e5, Nat.zero_mul] at e4
      rcases Nat.mul_eq_zero.1 e4 with h | h
      · exact h
      · exact absurd h (Nat.ne_of_gt (Nat.two_pow_pos _))
    have hr : p % 2147483648 = 0 := by unfold mag32 at hm; split at hm <;> omega
    rcases hz with rfl | rfl
    · have : (p / 2147483648 % 2 == 1) = false := e1
      have : ¬ (p / 2147483648 % 2 = 1) := by simpa using this
      exact .inl ⟨by omega, rfl⟩
    · have : (p / 2147483648 % 2 == 1) = true := e1
      have : p / 2147483648 % 2 = 1 := by simpa using this
      exact .inr ⟨by omega, rfl⟩
theorem conv_zero : ∀ w, (convert 50 23 (.float .f32 0)).run Try.prog w = .ok (.float .f64 0) w := fun w => run_convert_float_float (P := Try.prog) (w := w) _ _ .f32 .f64 _ _ (by kernel_rfl) (by kernel_rfl) (by decide +kernel)
theorem conv_nzero : ∀ w, (convert 50 23 (.float .f32 2147483648)).run Try.prog w = .ok (.float .f64 9223372036854775808) w := fun w => run_convert_float_float (P := Try.prog) (w := w) _ _ .f32 .f64 _ _ (by kernel_rfl) (by kernel_rfl) (by decide +kernel)
theorem ord32 {p p' q q' : Nat} (hp : Wide p p') (hq : Wide q q') : FloatKind.f32.format.order p q = FloatKind.f64.format.order p' q' := order_short hp.2.2 hq.2.2
set_option maxRecDepth 100000 in
theorem ahead32_b {p q p' q' : Nat} (hp : Wide p p') (hq : Wide q q') (w : World) :
    Calls Try.prog 58 #[.float .f32 p, .float .f32 q] w fun e w' => e = .returned (.bool (aheadW p' q')) ∧ w = w' := by
  obtain ⟨n1, n2⟩ := ahead_nan p' q' hp.2.1 hq.2.1
  have e1 : (FloatKind.f32.format.order p p != some .eq) = isnan p' := by rw [ord32 hp hp]; exact ord_self p'
  have e2 : (FloatKind.f32.format.order q q != some .eq) = isnan q' := by rw [ord32 hq hq]; exact ord_self q'
  have e3 : (FloatKind.f32.format.order p 0 == some .eq) = fEq p' 0 := by rw [ord32 hp wide0]; exact ord_eq p' 0
  have e4 : (FloatKind.f32.format.order q 0 == some .eq) = fEq q' 0 := by rw [ord32 hq wide0]; exact ord_eq q' 0
  have e5 : (FloatKind.f32.format.order p q == some .lt) = fLt p' q' := by rw [ord32 hp hq]; exact ord_lt p' q'
  cases na : isnan p' with
  | true =>
    rw [n1 na]
    rw [na] at e1
    clear n1 n2 hp hq e2 e3 e4 e5
    go_enter Try.func58, Try.ntmps58
    go_wp2
    go_ret
    exact ⟨rfl, rfl⟩
  | false =>
    rw [na] at e1
    cases nb : isnan q' with
    | true =>
      rw [n2 na nb]
      rw [nb] at e2
      clear n1 n2 hp hq e3 e4 e5
      go_enter Try.func58, Try.ntmps58
      go_wp2
      go_ret
      exact ⟨rfl, rfl⟩
    | false =>
      rw [nb] at e2
      by_cases hz : fEq p' 0 = true ∧ fEq q' 0 = true
      · obtain ⟨hz1, hz2⟩ := hz
        have d1 := quo_zero
        have d2 := quo_nzero
        have d3 := conv_zero
        have d4 := conv_nzero
        have z3 := hz1
        have z4 := hz2
        rw [hz1] at e3
        rw [hz2] at e4
        rcases wide_zero hp (zero_bits p' hp.2.1 na hz1) with ⟨rfl, rfl⟩ | ⟨rfl, rfl⟩ <;> rcases wide_zero hq (zero_bits q' hq.2.1 nb hz2) with ⟨rfl, rfl⟩ | ⟨rfl, rfl⟩
        all_goals
          clear n1 n2 hp hq e5
          go_enter Try.func58, Try.ntmps58
          go_wp2
          go_ret
          exact ⟨ret_bool (by decide +kernel), rfl⟩
      · rw [ahead_num p' q' hp.2.1 hq.2.1 na nb hz]
        have hc : fEq p' 0 = false ∨ (fEq p' 0 = true ∧ fEq q' 0 = false) := by
          cases h1 : fEq p' 0
          · exact .inl rfl
          · cases h2 : fEq q' 0
            · exact .inr ⟨rfl, rfl⟩
            · exact (hz ⟨h1, h2⟩).elim
        clear n1 n2 hp hq hz
        rcases hc with h1 | ⟨h1, h2⟩
        · rw [h1] at e3
          go_enter Try.func58, Try.ntmps58
          go_wp2
          go_ret
          exact ⟨rfl, rfl⟩
        · rw [h1] at e3
          rw [h2] at e4
          go_enter Try.func58, Try.ntmps58
          go_wp2
          go_ret
          exact ⟨rfl, rfl⟩
end Go.Proofs.Ytconppelbjjkjaa
