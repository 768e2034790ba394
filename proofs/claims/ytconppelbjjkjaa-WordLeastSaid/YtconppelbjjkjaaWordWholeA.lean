/- Floor, and the whole number that a double is, by their contracts. -/
import Derived.Test.YtconppelbjjkjaaWordUp
import Derived.Test.YtconppelbjjkjaaFloat2
namespace Go.Proofs.Ytconppelbjjkjaa
open Go.RowKit
set_option maxHeartbeats 400000

theorem read_of_nan (b : Nat) (hn : isnan b = true) : ∃ s t, Ieee.double.read b = .nan s t := by
  simp [isnan] at hn
  exact ⟨_, _, read_nan b hn⟩
theorem read_of_num (b : Nat) (hn : isnan b = false) : (∃ s m e, Ieee.double.read b = .number s m e) ∨ ∃ s, Ieee.double.read b = .infinity s := by
  simp [isnan] at hn
  by_cases h : b % 9223372036854775808 < 9218868437227405312
  · exact .inl ⟨_, _, _, read_num b h⟩
  · exact .inr ⟨_, read_inf b (by omega)⟩

theorem floor_entry (b : Nat) : Extern.MathFloor.toIntegral "math.archFloor" .down #[.float .f64 b] =
    (match Ieee.double.read b with
    | .nan s t => if Ieee.double.quiet t = t then pure (.float .f64 b) else (do
        let kept ← choose (.extern "math.Floor,Ceil,Trunc,RoundToEven.signallingNaN kept" 2)
        pure (.float .f64 (if kept == 1 then b else Ieee.double.write (.nan s (Ieee.double.quiet t)))))
    | d => pure (.float .f64 (Ieee.double.write (d.integral .down)))) := rfl

theorem run_floor (b : Nat) (w : World) : (callFunc 67 #[.float .f64 b]).run Try.prog w = ((Extern.MathFloor.toIntegral "math.archFloor" .down #[.float .f64 b]).run Try.prog w).andThen fun v w' => .ok (.value v) w' :=
  run_callFunc_extern (fn := Try.f67) (e := Extern.MathFloor.toIntegral "math.archFloor" .down) (by kernel_rfl) (by kernel_rfl) (by kernel_rfl) (by kernel_rfl) (by kernel_rfl) #[.float .f64 b] w

theorem run_floor_num (b : Nat) (hn : isnan b = false) (w : World) :
    (callFunc 67 #[.float .f64 b]).run Try.prog w = .ok (.value (.float .f64 (Ieee.double.write ((Ieee.double.read b).integral .down)))) w := by
  rw [run_floor, floor_entry]
  rcases read_of_num b hn with ⟨s, m, e, h⟩ | ⟨s, h⟩ <;> rw [h] <;> rfl

theorem quiet_nan (s : Bool) (t : Nat) : isnan (Ieee.double.write (.nan s (Ieee.double.quiet t))) = true := by
  have e : Ieee.double.write (.nan s (Ieee.double.quiet t)) = Ieee.double.word s (9218868437227405312 + (t ||| 2 ^ 51) % 2 ^ 52) := rfl
  have h1 : (t ||| 2 ^ 51) % 2 ^ 52 / 2 ^ 51 = 1 := by
    rw [Nat.or_mod_two_pow, Nat.or_div_two_pow, Nat.mod_eq_of_lt (show 2 ^ 51 < 2 ^ 52 by decide), Nat.div_self (by decide)]
    have : t % 2 ^ 52 / 2 ^ 51 < 2 := by omega
    have h2 : t % 2 ^ 52 / 2 ^ 51 = 0 ∨ t % 2 ^ 52 / 2 ^ 51 = 1 := by omega
    rcases h2 with h2 | h2 <;> rw [h2] <;> rfl
  rw [e]
  generalize hx : (t ||| 2 ^ 51) % 2 ^ 52 = x at h1 ⊢
  have hl : x < 2 ^ 52 := by rw [← hx]; exact Nat.mod_lt _ (by decide)
  obtain ⟨q1, _, _⟩ := word_parts s (9218868437227405312 + x) (by omega)
  unfold isnan
  rw [q1]
  simp
  omega

theorem run_floor_nan (b : Nat) (hn : isnan b = true) (w : World) :
    ∃ v w', isnan v = true ∧ Below w.heap.size w w' ∧ w'.heap = w.heap ∧ (callFunc 67 #[.float .f64 b]).run Try.prog w = .ok (.value (.float .f64 v)) w' := by
  obtain ⟨s, t, h⟩ := read_of_nan b hn
  by_cases hq : Ieee.double.quiet t = t
  · refine ⟨b, w, hn, Below.refl _ _, rfl, ?_⟩
    rw [run_floor, floor_entry, h]
    dsimp only
    rw [if_pos hq]
    rfl
  · refine ⟨if w.tape w.drawn (.extern "math.Floor,Ceil,Trunc,RoundToEven.signallingNaN kept" 2) % 2 == 1 then b else Ieee.double.write (.nan s (Ieee.double.quiet t)), w.drew, ?_, (Below.refl _ _).drew, rfl, ?_⟩
    · split
      · exact hn
      · exact quiet_nan s t
    · rw [run_floor, floor_entry, h]
      dsimp only
      rw [if_neg hq]
      simp [Question.forced, Question.cut]

theorem floor_any (b : Nat) (hn : isnan b = false) (w : World) :
    Calls Try.prog 64 #[.float .f64 b] w fun e w' => e = .returned (.float .f64 (Ieee.double.write ((Ieee.double.read b).integral .down))) ∧ w = w' := by
  have hr := run_floor_num b hn w
  go_enter Try.func64, Try.ntmps64
  go_wp2
  go_ret
  exact ⟨rfl, rfl⟩

theorem floor_nan (b : Nat) (hn : isnan b = true) (w : World) :
    Calls Try.prog 64 #[.float .f64 b] w fun e w' => ∃ v, e = .returned (.float .f64 v) ∧ isnan v = true ∧ Below w.heap.size w w' ∧ w'.heap = w.heap := by
  obtain ⟨v, w1, hv, hb, hh, hr⟩ := run_floor_nan b hn w
  have hv' := Lib.hid hv
  have hh' := Lib.hid hh
  clear hv hh
  go_enter Try.func64, Try.ntmps64
  go_wp2
  go_ret
  exact ⟨v, rfl, hv'.out, hb, hh'.out⟩
end Go.Proofs.Ytconppelbjjkjaa
