/- Plain facts on IEEE doubles as bit patterns: their order is the order of their rungs with the sign. No program in sight. -/
import Ieee.Arith
namespace Go.Proofs.Ytconppelbjjkjaa
open Ieee

/-- The magnitude of a rung below infinity's, in units of the least place. -/
def mg (r : Nat) : Nat := if r < 4503599627370496 then r else (4503599627370496 + r % 4503599627370496) * 2 ^ (r / 4503599627370496 - 1)

theorem mg_succ (r : Nat) : mg r < mg (r + 1) := by
  unfold mg
  by_cases h : r + 1 < 4503599627370496
  · rw [if_pos (by omega), if_pos h]; omega
  · rw [if_neg h]
    by_cases h2 : r < 4503599627370496
    · rw [if_pos h2]
      have : r + 1 = 4503599627370496 := by omega
      rw [this]; simp
      omega
    · rw [if_neg h2]
      by_cases h3 : r % 4503599627370496 + 1 = 4503599627370496
      · have e1 : (r + 1) % 4503599627370496 = 0 := by omega
        have e2 : (r + 1) / 4503599627370496 - 1 = (r / 4503599627370496 - 1) + 1 := by omega
        rw [e1, e2, Nat.pow_succ]
        have hp : 0 < 2 ^ (r / 4503599627370496 - 1) := Nat.two_pow_pos _
        generalize 2 ^ (r / 4503599627370496 - 1) = p at *
        have : (4503599627370496 + 0) * (p * 2) = (4503599627370496 + 4503599627370496) * p := by omega
        rw [this]
        exact Nat.mul_lt_mul_of_pos_right (by omega) hp
      · have e1 : (r + 1) % 4503599627370496 = r % 4503599627370496 + 1 := by omega
        have e2 : (r + 1) / 4503599627370496 = r / 4503599627370496 := by omega
        rw [e1, e2]
        exact Nat.mul_lt_mul_of_pos_right (by omega) (Nat.two_pow_pos _)

theorem mg_lt {r s : Nat} (h : r < s) : mg r < mg s := by
  induction s with
  | zero => omega
  | succ s ih =>
    by_cases e : r = s
    · subst e; exact mg_succ r
    · exact Nat.lt_trans (ih (by omega)) (mg_succ s)

theorem mg_lt_iff {r s : Nat} : mg r < mg s ↔ r < s := by
  constructor
  · intro h
    by_cases h2 : r < s
    · exact h2
    · by_cases e : r = s
      · subst e; omega
      · have := mg_lt (show s < r by omega); omega
  · exact mg_lt

theorem mg_inj {r s : Nat} (h : mg r = mg s) : r = s := by
  by_cases h1 : r < s
  · have := mg_lt h1; omega
  · by_cases h2 : s < r
    · have := mg_lt h2; omega
    · omega

/-- the number of a word, in units of the least place, with its sign -/
def sg (n : Bool) (m : Nat) : Int := if n then -(m : Int) else m

/-- the rung with the word's sign -/
def sr (x : Nat) : Int := if x / 9223372036854775808 % 2 = 1 then -((x % 9223372036854775808 : Nat) : Int) else ((x % 9223372036854775808 : Nat) : Int)

def isnan (x : Nat) : Bool := decide (9218868437227405312 < x % 9223372036854775808)

theorem read_double (x : Nat) : double.read x =
    if x % 9223372036854775808 < 4503599627370496 then .number (x / 9223372036854775808 % 2 == 1) (x % 9223372036854775808) (-1074)
    else if x % 9223372036854775808 < 9218868437227405312 then .number (x / 9223372036854775808 % 2 == 1) (4503599627370496 + x % 9223372036854775808 % 4503599627370496) (-1074 + (x % 9223372036854775808 / 4503599627370496 - 1 : Nat))
    else if x % 9223372036854775808 = 9218868437227405312 then .infinity (x / 9223372036854775808 % 2 == 1) else .nan (x / 9223372036854775808 % 2 == 1) (x % 9223372036854775808 - 9218868437227405312) := by
  rfl

def magOf (r : Nat) : Nat := if r < 4503599627370496 then r else 4503599627370496 + r % 4503599627370496
def expOf (r : Nat) : Nat := if r < 4503599627370496 then 0 else r / 4503599627370496 - 1

theorem mg_eq (r : Nat) : mg r = magOf r * 2 ^ expOf r := by
  unfold mg magOf expOf
  split <;> simp

theorem read_num (x : Nat) (h : x % 9223372036854775808 < 9218868437227405312) :
    double.read x = .number (x / 9223372036854775808 % 2 == 1) (magOf (x % 9223372036854775808)) (-1074 + (expOf (x % 9223372036854775808) : Nat)) := by
  rw [read_double]
  unfold magOf expOf
  split
  · simp
  · rfl

theorem read_inf (x : Nat) (h : x % 9223372036854775808 = 9218868437227405312) :
    double.read x = .infinity (x / 9223372036854775808 % 2 == 1) := by
  rw [read_double, if_neg (by omega), if_neg (by omega), if_pos h]

theorem read_nan (x : Nat) (h : 9218868437227405312 < x % 9223372036854775808) :
    double.read x = .nan (x / 9223372036854775808 % 2 == 1) (x % 9223372036854775808 - 9218868437227405312) := by
  rw [read_double, if_neg (by omega), if_neg (by omega), if_neg (by omega)]

theorem cmp_int (a b : Int) : compare a b = if a < b then .lt else if a = b then .eq else .gt := rfl

theorem cmp_scale (a b : Int) (k : Nat) (hk : 0 < k) : compare (a * k) (b * k) = compare a b := by
  rw [cmp_int, cmp_int]
  have h1 : a * k < b * k ↔ a < b := Int.mul_lt_mul_right (by omega)
  have h2 : a * k = b * k ↔ a = b := Int.mul_eq_mul_right_iff (by omega)
  simp only [h1, h2]

theorem signed_scale (s : Bool) (m e u : Nat) (h : u ≤ e) : signed s m (e - u) * (2 ^ u : Nat) = sg s (m * 2 ^ e) := by
  unfold signed sg
  have : m <<< (e - u) * 2 ^ u = m * 2 ^ e := by
    rw [Nat.shiftLeft_eq, Nat.mul_assoc, ← Nat.pow_add, Nat.sub_add_cancel h]
  cases s
  · simp only [Bool.false_eq_true, if_false]
    rw [← this]; simp
  · simp only [if_true]
    rw [← this, Int.neg_mul]; simp

theorem order_num (s t : Bool) (m n e f : Nat) :
    Datum.order (.number s m (-1074 + (e : Nat))) (.number t n (-1074 + (f : Nat))) = some (compare (sg s (m * 2 ^ e)) (sg t (n * 2 ^ f))) := by
  show some _ = some _
  congr 1
  have e1 : ((-1074 + (e : Int)) - min (-1074 + (e : Int)) (-1074 + (f : Int))).toNat = e - min e f := by omega
  have e2 : ((-1074 + (f : Int)) - min (-1074 + (e : Int)) (-1074 + (f : Int))).toNat = f - min e f := by omega
  simp only [e1, e2]
  rw [← cmp_scale _ _ (2 ^ min e f) (Nat.two_pow_pos _), signed_scale _ _ _ _ (Nat.min_le_left ..), signed_scale _ _ _ _ (Nat.min_le_right ..)]

theorem sg_cmp (s t : Bool) (r q : Nat) : compare (sg s (mg r)) (sg t (mg q)) = compare (sg s r) (sg t q) := by
  have h0 : mg 0 = 0 := rfl
  have hr : r = 0 ∨ (0 < r ∧ 0 < mg r) := by
    by_cases h : r = 0
    · exact .inl h
    · exact .inr ⟨by omega, by have := mg_lt (show 0 < r by omega); omega⟩
  have hq : q = 0 ∨ (0 < q ∧ 0 < mg q) := by
    by_cases h : q = 0
    · exact .inl h
    · exact .inr ⟨by omega, by have := mg_lt (show 0 < q by omega); omega⟩
  have l1 := @mg_lt_iff r q
  have l2 := @mg_lt_iff q r
  have l3 : mg r = mg q ↔ r = q := ⟨mg_inj, fun h => by rw [h]⟩
  rw [cmp_int, cmp_int]
  have a1 : sg s (mg r) < sg t (mg q) ↔ sg s r < sg t q := by
    cases s <;> cases t <;> simp only [sg, if_true, if_false, Bool.false_eq_true]
    · omega
    · rcases hr with rfl | ⟨_, _⟩ <;> rcases hq with rfl | ⟨_, _⟩ <;> omega
    · rcases hr with rfl | ⟨_, _⟩ <;> rcases hq with rfl | ⟨_, _⟩ <;> omega
    · omega
  have a2 : sg s (mg r) = sg t (mg q) ↔ sg s r = sg t q := by
    cases s <;> cases t <;> simp only [sg, if_true, if_false, Bool.false_eq_true]
    · omega
    · rcases hr with rfl | ⟨_, _⟩ <;> rcases hq with rfl | ⟨_, _⟩ <;> omega
    · rcases hr with rfl | ⟨_, _⟩ <;> rcases hq with rfl | ⟨_, _⟩ <;> omega
    · omega
  simp only [a1, a2]

theorem sr_eq (x : Nat) : sr x = sg (x / 9223372036854775808 % 2 == 1) (x % 9223372036854775808) := by
  unfold sr sg
  by_cases h : x / 9223372036854775808 % 2 = 1 <;> simp [h]

theorem cmp_inf_r (s t : Bool) (r i : Nat) (h : r < i) : compare (sg s r) (sg t i) = if t then .gt else .lt := by
  rw [cmp_int]
  cases s <;> cases t <;> simp only [sg, if_true, if_false, Bool.false_eq_true]
  · rw [if_pos (by omega)]
  · rw [if_neg (by omega), if_neg (by omega)]
  · rw [if_pos (by omega)]
  · rw [if_neg (by omega), if_neg (by omega)]
theorem cmp_inf_l (s t : Bool) (r i : Nat) (h : r < i) : compare (sg t i) (sg s r) = if t then .lt else .gt := by
  rw [cmp_int]
  cases s <;> cases t <;> simp only [sg, if_true, if_false, Bool.false_eq_true]
  · rw [if_neg (by omega), if_neg (by omega)]
  · rw [if_pos (by omega)]
  · rw [if_neg (by omega), if_neg (by omega)]
  · rw [if_pos (by omega)]

theorem order_double (x y : Nat) : double.order x y = if isnan x || isnan y then none else some (compare (sr x) (sr y)) := by
  unfold Format.order
  have tri : ∀ z : Nat, z % 9223372036854775808 < 9218868437227405312 ∨ z % 9223372036854775808 = 9218868437227405312 ∨ 9218868437227405312 < z % 9223372036854775808 := fun z => by omega
  rcases tri x with hx | hx | hx
  · have nx : isnan x = false := by simp [isnan]; omega
    rcases tri y with hy | hy | hy
    · have ny : isnan y = false := by simp [isnan]; omega
      rw [nx, ny, read_num x hx, read_num y hy, order_num, ← mg_eq, ← mg_eq, sg_cmp, sr_eq, sr_eq]
      rfl
    · have ny : isnan y = false := by simp [isnan]; omega
      rw [nx, ny, read_num x hx, read_inf y hy, sr_eq, sr_eq, hy, cmp_inf_r _ _ _ _ hx]
      rfl
    · have ny : isnan y = true := by simp [isnan]; omega
      rw [nx, ny, read_num x hx, read_nan y hy]; rfl
  · have nx : isnan x = false := by simp [isnan]; omega
    rcases tri y with hy | hy | hy
    · have ny : isnan y = false := by simp [isnan]; omega
      rw [nx, ny, read_inf x hx, read_num y hy, sr_eq, sr_eq, hx, cmp_inf_l _ _ _ _ hy]
      rfl
    · have ny : isnan y = false := by simp [isnan]; omega
      rw [nx, ny, read_inf x hx, read_inf y hy, sr_eq, sr_eq, hx, hy, cmp_int]
      cases hs : (y / 9223372036854775808 % 2 == 1) <;> cases (x / 9223372036854775808 % 2 == 1) <;> simp [Datum.order, sg] <;> decide
    · have ny : isnan y = true := by simp [isnan]; omega
      rw [nx, ny, read_inf x hx, read_nan y hy]; rfl
  · have nx : isnan x = true := by simp [isnan]; omega
    rw [nx, read_nan x hx]; rfl
end Go.Proofs.Ytconppelbjjkjaa
