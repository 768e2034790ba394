/- The short floats beside the long ones: what a long float stands for when it has been made of a short one. No program in sight. -/
import Derived.Test.YtconppelbjjkjaaFloat2
namespace Go.Proofs.Ytconppelbjjkjaa
open Ieee
set_option linter.unusedVariables false

/-- the same number, infinity, or both no number -/
def Like : Datum → Datum → Prop
  | .number s m e, .number t n f => s = t ∧ ∃ a b : Nat, e = -1074 + (a : Int) ∧ f = -1074 + (b : Int) ∧ m * 2 ^ a = n * 2 ^ b
  | .infinity s, .infinity t => s = t
  | .nan _ _, .nan _ _ => True
  | _, _ => False
theorem like_order {d d' c c' : Datum} (h : Like d d') (g : Like c c') : d.order c = d'.order c' := by
  cases d <;> cases d' <;> first | exact h.elim | skip
  all_goals cases c <;> cases c' <;> first | exact g.elim | skip
  · obtain ⟨rfl, a, b, rfl, rfl, e⟩ := h
    obtain ⟨rfl, a', b', rfl, rfl, e'⟩ := g
    rw [order_num, order_num, e, e']
  · obtain rfl : _ = _ := g; rfl
  · rfl
  · obtain rfl : _ = _ := h; rfl
  · obtain rfl : _ = _ := h
    obtain rfl : _ = _ := g
    rfl
  · rfl
  · rfl
  · rfl
  · rfl
def mag32 (r : Nat) : Nat := if r < 8388608 then r else 8388608 + r % 8388608
def exp32 (r : Nat) : Nat := if r < 8388608 then 0 else r / 8388608 - 1
def nan32 (x : Nat) : Bool := decide (2139095040 < x % 2147483648)
theorem read_single (x : Nat) : single.read x =
    if x % 2147483648 < 8388608 then .number (x / 2147483648 % 2 == 1) (x % 2147483648) (-149)
    else if x % 2147483648 < 2139095040 then .number (x / 2147483648 % 2 == 1) (8388608 + x % 2147483648 % 8388608) (-149 + (x % 2147483648 / 8388608 - 1 : Nat))
    else if x % 2147483648 = 2139095040 then .infinity (x / 2147483648 % 2 == 1) else .nan (x / 2147483648 % 2 == 1) (x % 2147483648 - 2139095040) := by
  rfl
theorem read32_num (x : Nat) (h : x % 2147483648 < 2139095040) :
    single.read x = .number (x / 2147483648 % 2 == 1) (mag32 (x % 2147483648)) (-1074 + ((925 + exp32 (x % 2147483648) : Nat) : Int)) := by
  rw [read_single]
  unfold mag32 exp32
  split
  · simp
  · first | rw [if_pos h] | skip
    congr 1
    omega
theorem read32_inf (x : Nat) (h : x % 2147483648 = 2139095040) : single.read x = .infinity (x / 2147483648 % 2 == 1) := by
  rw [read_single, if_neg (by omega), if_neg (by omega), if_pos h]
theorem read32_nan (x : Nat) (h : 2139095040 < x % 2147483648) : single.read x = .nan (x / 2147483648 % 2 == 1) (x % 2147483648 - 2139095040) := by
  rw [read_single, if_neg (by omega), if_neg (by omega), if_neg (by omega)]
theorem mag32_le (r : Nat) : mag32 r ≤ 9007199254740992 := by unfold mag32; split <;> omega
theorem exp32_le (r : Nat) (h : r < 2139095040) : 925 + exp32 r ≤ 2000 := by unfold exp32; split <;> omega
theorem word_read (s : Bool) (r : Nat) (h : r < 9218868437227405312) : double.read (double.word s r) = .number s (magOf r) (-1074 + (expOf r : Nat)) := by
  obtain ⟨e1, e2, _⟩ := word_parts s r (by omega)
  rw [read_num _ (by rw [e1]; exact h), e1, e2]
/-- a short float that is a number, made long -/
theorem wide_num (x : Nat) (h : x % 2147483648 < 2139095040) : ∃ q, double.write (single.read x) = q ∧ q < 18446744073709551616 ∧ Like (single.read x) (double.read q) ∧ (double.read q).isInfinity = false := by
  obtain ⟨r, hr, hm⟩ := ex_rung (mag32 (x % 2147483648)) (925 + exp32 (x % 2147483648)) (mag32_le _) (exp32_le _ h)
  obtain ⟨_, _, e3⟩ := word_parts (x / 2147483648 % 2 == 1) r (by omega)
  refine ⟨double.word (x / 2147483648 % 2 == 1) r, ?_, e3, ?_, ?_⟩
  · rw [read32_num x h]
    exact nearest_exact _ _ _ _ r rfl hr hm.symm
  · rw [read32_num x h, word_read _ r hr]
    exact ⟨rfl, _, _, rfl, rfl, by rw [← mg_eq, hm]⟩
  · rw [word_read _ r hr]; rfl
theorem wide_inf (x : Nat) (h : x % 2147483648 = 2139095040) : Like (single.read x) (double.read (double.write (single.read x))) ∧ double.write (single.read x) < 18446744073709551616 := by
  rw [read32_inf x h]
  obtain ⟨e1, e2, e3⟩ := word_parts (x / 2147483648 % 2 == 1) 9218868437227405312 (by omega)
  show Like _ (double.read (double.word _ 9218868437227405312)) ∧ double.word _ 9218868437227405312 < _
  rw [read_inf _ e1, e2]
  exact ⟨rfl, e3⟩
theorem wide_nan (x q : Nat) (h : 2139095040 < x % 2147483648) (hq : isnan q = true) : Like (single.read x) (double.read q) := by
  have hq : 9218868437227405312 < q % 9223372036854775808 := by simpa [isnan] using hq
  rw [read32_nan x h, read_nan q hq]
  trivial
theorem like_nan {x q : Nat} (h : Like (single.read x) (double.read q)) : nan32 x = isnan q := by
  have t1 : x % 2147483648 < 2139095040 ∨ x % 2147483648 = 2139095040 ∨ 2139095040 < x % 2147483648 := by omega
  have t2 : q % 9223372036854775808 < 9218868437227405312 ∨ q % 9223372036854775808 = 9218868437227405312 ∨ 9218868437227405312 < q % 9223372036854775808 := by omega
  unfold nan32 isnan
  rcases t1 with h1 | h1 | h1 <;> rcases t2 with h2 | h2 | h2
  all_goals first
    | (rw [read32_num x h1, read_num q h2] at h; rw [decide_eq_false (by omega), decide_eq_false (by omega)])
    | (rw [read32_num x h1, read_inf q h2] at h; exact h.elim)
    | (rw [read32_num x h1, read_nan q h2] at h; exact h.elim)
    | (rw [read32_inf x h1, read_num q h2] at h; exact h.elim)
    | (rw [read32_inf x h1, read_inf q h2] at h; rw [decide_eq_false (by omega), decide_eq_false (by omega)])
    | (rw [read32_inf x h1, read_nan q h2] at h; exact h.elim)
    | (rw [read32_nan x h1, read_num q h2] at h; exact h.elim)
    | (rw [read32_nan x h1, read_inf q h2] at h; exact h.elim)
    | (rw [read32_nan x h1, read_nan q h2] at h; rw [decide_eq_true h1, decide_eq_true h2])
/-- short floats stand to each other as the long ones made of them -/
theorem order_short {x y p q : Nat} (hx : Like (single.read x) (double.read p)) (hy : Like (single.read y) (double.read q)) : single.order x y = double.order p q := like_order hx hy
end Go.Proofs.Ytconppelbjjkjaa
