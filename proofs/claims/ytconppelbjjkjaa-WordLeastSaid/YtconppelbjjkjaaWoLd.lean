/- ahead, by contract: of whole numbers. -/
import Derived.Test.YtconppelbjjkjaaWoLc
namespace Go.Proofs.Ytconppelbjjkjaa
open Go.RowKit
set_option maxHeartbeats 4000000
set_option linter.unusedVariables false
set_option linter.unusedSimpArgs false

def ltI (a b : Int) : Bool := decide (a < b)
theorem conv_i8 : ∀ w, (convert 51 23 (.int .i8 0)).run Try.prog w = .ok (.float .f64 0) w := fun w => by
  exact (run_convert_int_float (P := Try.prog) w 51 23 .i8 .f64 0 (by kernel_rfl) Try.underlying23).trans (by kernel_rfl)
set_option maxRecDepth 100000 in
theorem ahead_i8 (a b : Int) (w : World) :
    Calls Try.prog 59 #[.int .i8 a, .int .i8 b] w fun e w' => e = .returned (.bool (ltI a b)) ∧ w = w' := by
  by_cases hz : a = 0 ∧ b = 0
  · obtain ⟨rfl, rfl⟩ := hz
    have d1 := quo_zero
    have d2 := conv_i8
    go_enter Try.func59, Try.ntmps59
    go_wp2
    go_ret
    exact ⟨ret_bool (by decide +kernel), rfl⟩
  · have hc : (a == 0) = false ∨ ((a == 0) = true ∧ (b == 0) = false) := by
      by_cases h1 : a = 0
      · exact .inr ⟨by simpa using h1, by simpa using fun h2 => hz ⟨h1, h2⟩⟩
      · exact .inl (by simpa using h1)
    clear hz
    rcases hc with h1 | ⟨h1, h2⟩
    all_goals
      go_enter Try.func59, Try.ntmps59
      go_wp2
      go_ret
      exact ⟨rfl, rfl⟩
theorem conv_i16 : ∀ w, (convert 52 23 (.int .i16 0)).run Try.prog w = .ok (.float .f64 0) w := fun w => by
  exact (run_convert_int_float (P := Try.prog) w 52 23 .i16 .f64 0 (by kernel_rfl) Try.underlying23).trans (by kernel_rfl)
set_option maxRecDepth 100000 in
theorem ahead_i16 (a b : Int) (w : World) :
    Calls Try.prog 60 #[.int .i16 a, .int .i16 b] w fun e w' => e = .returned (.bool (ltI a b)) ∧ w = w' := by
  by_cases hz : a = 0 ∧ b = 0
  · obtain ⟨rfl, rfl⟩ := hz
    have d1 := quo_zero
    have d2 := conv_i16
    go_enter Try.func60, Try.ntmps60
    go_wp2
    go_ret
    exact ⟨ret_bool (by decide +kernel), rfl⟩
  · have hc : (a == 0) = false ∨ ((a == 0) = true ∧ (b == 0) = false) := by
      by_cases h1 : a = 0
      · exact .inr ⟨by simpa using h1, by simpa using fun h2 => hz ⟨h1, h2⟩⟩
      · exact .inl (by simpa using h1)
    clear hz
    rcases hc with h1 | ⟨h1, h2⟩
    all_goals
      go_enter Try.func60, Try.ntmps60
      go_wp2
      go_ret
      exact ⟨rfl, rfl⟩
theorem conv_i32 : ∀ w, (convert 21 23 (.int .i32 0)).run Try.prog w = .ok (.float .f64 0) w := fun w => by
  exact (run_convert_int_float (P := Try.prog) w 21 23 .i32 .f64 0 (by kernel_rfl) Try.underlying23).trans (by kernel_rfl)
set_option maxRecDepth 100000 in
theorem ahead_i32 (a b : Int) (w : World) :
    Calls Try.prog 61 #[.int .i32 a, .int .i32 b] w fun e w' => e = .returned (.bool (ltI a b)) ∧ w = w' := by
  by_cases hz : a = 0 ∧ b = 0
  · obtain ⟨rfl, rfl⟩ := hz
    have d1 := quo_zero
    have d2 := conv_i32
    go_enter Try.func61, Try.ntmps61
    go_wp2
    go_ret
    exact ⟨ret_bool (by decide +kernel), rfl⟩
  · have hc : (a == 0) = false ∨ ((a == 0) = true ∧ (b == 0) = false) := by
      by_cases h1 : a = 0
      · exact .inr ⟨by simpa using h1, by simpa using fun h2 => hz ⟨h1, h2⟩⟩
      · exact .inl (by simpa using h1)
    clear hz
    rcases hc with h1 | ⟨h1, h2⟩
    all_goals
      go_enter Try.func61, Try.ntmps61
      go_wp2
      go_ret
      exact ⟨rfl, rfl⟩
theorem conv_i64 : ∀ w, (convert 2 23 (.int .i64 0)).run Try.prog w = .ok (.float .f64 0) w := fun w => by
  exact (run_convert_int_float (P := Try.prog) w 2 23 .i64 .f64 0 (by kernel_rfl) Try.underlying23).trans (by kernel_rfl)
set_option maxRecDepth 100000 in
theorem ahead_i64 (a b : Int) (w : World) :
    Calls Try.prog 62 #[.int .i64 a, .int .i64 b] w fun e w' => e = .returned (.bool (ltI a b)) ∧ w = w' := by
  by_cases hz : a = 0 ∧ b = 0
  · obtain ⟨rfl, rfl⟩ := hz
    have d1 := quo_zero
    have d2 := conv_i64
    go_enter Try.func62, Try.ntmps62
    go_wp2
    go_ret
    exact ⟨ret_bool (by decide +kernel), rfl⟩
  · have hc : (a == 0) = false ∨ ((a == 0) = true ∧ (b == 0) = false) := by
      by_cases h1 : a = 0
      · exact .inr ⟨by simpa using h1, by simpa using fun h2 => hz ⟨h1, h2⟩⟩
      · exact .inl (by simpa using h1)
    clear hz
    rcases hc with h1 | ⟨h1, h2⟩
    all_goals
      go_enter Try.func62, Try.ntmps62
      go_wp2
      go_ret
      exact ⟨rfl, rfl⟩
end Go.Proofs.Ytconppelbjjkjaa
