/- ahead, by contract: of long floats. -/
import Derived.Test.YtconppelbjjkjaaWordReals
namespace Go.Proofs.Ytconppelbjjkjaa
open Go.RowKit
set_option maxHeartbeats 4000000
set_option linter.unusedVariables false
set_option linter.unusedSimpArgs false

/-- which of two words is ahead -/
def aheadW (a b : Nat) : Bool := decide (ofReal a < ofReal b)
theorem zero_bits (a : Nat) (ha : a < 18446744073709551616) (na : isnan a = false) (h : fEq a 0 = true) : a = 0 ∨ a = 9223372036854775808 := by
  unfold fEq at h
  rw [na] at h
  simp only [Bool.not_false, Bool.true_and, Bool.and_eq_true, decide_eq_true_eq] at h
  obtain ⟨_, h⟩ := h
  rcases word_cases a ha na with ⟨q1, q2, q3⟩ | ⟨q1, q2, q3⟩
  · rw [q2] at h
    have h0 : sr 0 = 0 := rfl
    rw [h0] at h
    exact .inl (by omega)
  · rw [q2] at h
    have h0 : sr 0 = 0 := rfl
    rw [h0] at h
    exact .inr (by omega)
theorem ahead_nan (a b : Nat) (ha : a < 18446744073709551616) (hb : b < 18446744073709551616) :
    (isnan a = true → aheadW a b = false) ∧ (isnan a = false → isnan b = true → aheadW a b = true) := by
  refine ⟨fun h => ?_, fun h h' => ?_⟩
  · have e : ofReal a = 18446744073709551615 := by simp [ofReal, h]
    have : ofReal b ≤ 18446744073709551615 := by unfold ofReal; split; omega; split <;> omega
    exact decide_eq_false (by omega)
  · have e : ofReal b = 18446744073709551615 := by simp [ofReal, h']
    have := ofReal_range a ha h
    exact decide_eq_true (by omega)
theorem ahead_num (a b : Nat) (ha : a < 18446744073709551616) (hb : b < 18446744073709551616) (na : isnan a = false) (nb : isnan b = false) (h : ¬ (fEq a 0 = true ∧ fEq b 0 = true)) : aheadW a b = fLt a b := by
  unfold aheadW fLt
  rw [na, nb]
  simp only [Bool.not_false, Bool.true_and]
  have h0 : sr 0 = 0 := rfl
  have hz : ∀ c, isnan c = false → (fEq c 0 = true ↔ sr c = 0) := fun c hc => by unfold fEq; rw [hc, h0]; simp [show isnan 0 = false from rfl]
  rw [hz a na, hz b nb] at h
  rcases word_cases a ha na with ⟨q1, q2, q3⟩ | ⟨q1, q2, q3⟩ <;> rcases word_cases b hb nb with ⟨r1, r2, r3⟩ | ⟨r1, r2, r3⟩ <;> rw [q2, r2] at h <;> rw [q2, q3, r2, r3]
  all_goals
    by_cases hd : ofReal a < ofReal b
    all_goals (first | (rw [decide_eq_true (by omega), decide_eq_true (by omega)]) | (rw [decide_eq_false (by omega), decide_eq_false (by omega)]))
theorem quo_zero : ∀ w, (binOp .quo 23 (.float .f64 4607182418800017408) (.float .f64 0)).run Try.prog w = .ok (.float .f64 9218868437227405312) w := fun w => run_float_arith (P := Try.prog) w .quo 23 .f64 _ _ _ (by decide +kernel)
theorem quo_nzero : ∀ w, (binOp .quo 23 (.float .f64 4607182418800017408) (.float .f64 9223372036854775808)).run Try.prog w = .ok (.float .f64 18442240474082181120) w := fun w => run_float_arith (P := Try.prog) w .quo 23 .f64 _ _ _ (by decide +kernel)
set_option maxRecDepth 100000 in
theorem ahead64_b (a b : Nat) (ha : a < 18446744073709551616) (hb : b < 18446744073709551616) (w : World) :
    Calls Try.prog 57 #[.float .f64 a, .float .f64 b] w fun e w' => e = .returned (.bool (aheadW a b)) ∧ w = w' := by
  obtain ⟨n1, n2⟩ := ahead_nan a b ha hb
  cases na : isnan a with
  | true =>
    rw [n1 na]
    clear n1 n2 ha hb
    go_enter Try.func57, Try.ntmps57
    go_wp2
    go_ret
    exact ⟨rfl, rfl⟩
  | false =>
    cases nb : isnan b with
    | true =>
      rw [n2 na nb]
      clear n1 n2 ha hb
      go_enter Try.func57, Try.ntmps57
      go_wp2
      go_ret
      exact ⟨rfl, rfl⟩
    | false =>
      by_cases hz : fEq a 0 = true ∧ fEq b 0 = true
      · obtain ⟨hz1, hz2⟩ := hz
        have d1 := quo_zero
        have d2 := quo_nzero
        rcases zero_bits a ha na hz1 with rfl | rfl <;> rcases zero_bits b hb nb hz2 with rfl | rfl
        all_goals
          clear n1 n2 ha hb
          go_enter Try.func57, Try.ntmps57
          go_wp2
          go_ret
          exact ⟨ret_bool (by decide +kernel), rfl⟩
      · rw [ahead_num a b ha hb na nb hz]
        have hc : fEq a 0 = false ∨ (fEq a 0 = true ∧ fEq b 0 = false) := by
          cases h1 : fEq a 0
          · exact .inl rfl
          · cases h2 : fEq b 0
            · exact .inr ⟨rfl, rfl⟩
            · exact (hz ⟨h1, h2⟩).elim
        clear n1 n2 ha hb hz
        rcases hc with h1 | ⟨h1, h2⟩
        all_goals
          go_enter Try.func57, Try.ntmps57
          go_wp2
          go_ret
          exact ⟨rfl, rfl⟩
end Go.Proofs.Ytconppelbjjkjaa
