/- Plain facts on IEEE doubles as bit patterns: their order is the order of their rungs with the sign. No program in sight. -/
import Ieee.Arith
import Derived.Laws.BitsAllLaws
import Derived.Laws.BitsLemmas
import Derived.Test.YteoebfjhadmnbaaRows
import Derived.WalkKit
import Derived.WalkSpells
import Derived.WalkLawsBesides
import Derived.OwnWalk
import Derived.ArgAppend
import Derived.Laws.AppendOwnNone
import Derived.Laws.IdiomCopy
import Derived.Below
import Derived.Carry
import Derived.Maps.AppendAt
import Derived.Deep.AppendLies
import Derived.Lib.Hide
import Derived.Deep.Draws
import Derived.RegionTactic
import Derived.Laws.FloatArith
namespace Go.Proofs.Yteoebfjhadmnbaa
open Ieee

/-- The magnitude of a rung below infinity's, in units of the least place. -/
def mg (r : Nat) : Nat := if r < 4503599627370496 then r else (4503599627370496 + r % 4503599627370496) * 2 ^ (r / 4503599627370496 - 1)

theorem mg_succ (r : Nat) : mg r < mg (r + 1) := by
  unfold mg
  by_cases h : r + 1 < 4503599627370496
  · rw [if_pos (by omega), if_pos h]; omega
  · rw [if_neg h]
    by_cases h2 : r < 4503599627370496
    · rw [if_pos h2]
      have : r + 1 = 4503599627370496 := by omega
      rw [this]; simp
      omega
    · rw [if_neg h2]
      by_cases h3 : r % 4503599627370496 + 1 = 4503599627370496
      · have e1 : (r + 1) % 4503599627370496 = 0 := by omega
        have e2 : (r + 1) / 4503599627370496 - 1 = (r / 4503599627370496 - 1) + 1 := by omega
        rw [e1, e2, Nat.pow_succ]
        have hp : 0 < 2 ^ (r / 4503599627370496 - 1) := Nat.two_pow_pos _
        generalize 2 ^ (r / 4503599627370496 - 1) = p at *
        have : (4503599627370496 + 0) * (p * 2) = (4503599627370496 + 4503599627370496) * p := by omega
        rw [this]
        exact Nat.mul_lt_mul_of_pos_right (by omega) hp
      · have e1 : (r + 1) % 4503599627370496 = r % 4503599627370496 + 1 := by omega
        have e2 : (r + 1) / 4503599627370496 = r / 4503599627370496 := by omega
        rw [e1, e2]
        exact Nat.mul_lt_mul_of_pos_right (by omega) (Nat.two_pow_pos _)

theorem mg_lt {r s : Nat} (h : r < s) : mg r < mg s := by
  induction s with
  | zero => omega
  | succ s ih =>
    by_cases e : r = s
    · subst e; exact mg_succ r
    · exact Nat.lt_trans (ih (by omega)) (mg_succ s)

theorem mg_lt_iff {r s : Nat} : mg r < mg s ↔ r < s := by
  constructor
  · intro h
    by_cases h2 : r < s
    · exact h2
    · by_cases e : r = s
      · subst e; omega
      · have := mg_lt (show s < r by omega); omega
  · exact mg_lt

theorem mg_inj {r s : Nat} (h : mg r = mg s) : r = s := by
  by_cases h1 : r < s
  · have := mg_lt h1; omega
  · by_cases h2 : s < r
    · have := mg_lt h2; omega
    · omega

/-- the number of a word, in units of the least place, with its sign -/
def sg (n : Bool) (m : Nat) : Int := if n then -(m : Int) else m

/-- the rung with the word's sign -/
def sr (x : Nat) : Int := if x / 9223372036854775808 % 2 = 1 then -((x % 9223372036854775808 : Nat) : Int) else ((x % 9223372036854775808 : Nat) : Int)

def isnan (x : Nat) : Bool := decide (9218868437227405312 < x % 9223372036854775808)

theorem read_double (x : Nat) : double.read x =
    if x % 9223372036854775808 < 4503599627370496 then .number (x / 9223372036854775808 % 2 == 1) (x % 9223372036854775808) (-1074)
    else if x % 9223372036854775808 < 9218868437227405312 then .number (x / 9223372036854775808 % 2 == 1) (4503599627370496 + x % 9223372036854775808 % 4503599627370496) (-1074 + (x % 9223372036854775808 / 4503599627370496 - 1 : Nat))
    else if x % 9223372036854775808 = 9218868437227405312 then .infinity (x / 9223372036854775808 % 2 == 1) else .nan (x / 9223372036854775808 % 2 == 1) (x % 9223372036854775808 - 9218868437227405312) := by
  rfl

def magOf (r : Nat) : Nat := if r < 4503599627370496 then r else 4503599627370496 + r % 4503599627370496
def expOf (r : Nat) : Nat := if r < 4503599627370496 then 0 else r / 4503599627370496 - 1

theorem mg_eq (r : Nat) : mg r = magOf r * 2 ^ expOf r := by
  unfold mg magOf expOf
  split <;> simp

theorem read_num (x : Nat) (h : x % 9223372036854775808 < 9218868437227405312) :
    double.read x = .number (x / 9223372036854775808 % 2 == 1) (magOf (x % 9223372036854775808)) (-1074 + (expOf (x % 9223372036854775808) : Nat)) := by
  rw [read_double]
  unfold magOf expOf
  split
  · simp
  · rfl

theorem read_inf (x : Nat) (h : x % 9223372036854775808 = 9218868437227405312) :
    double.read x = .infinity (x / 9223372036854775808 % 2 == 1) := by
  rw [read_double, if_neg (by omega), if_neg (by omega), if_pos h]

theorem read_nan (x : Nat) (h : 9218868437227405312 < x % 9223372036854775808) :
    double.read x = .nan (x / 9223372036854775808 % 2 == 1) (x % 9223372036854775808 - 9218868437227405312) := by
  rw [read_double, if_neg (by omega), if_neg (by omega), if_neg (by omega)]

theorem cmp_int (a b : Int) : compare a b = if a < b then .lt else if a = b then .eq else .gt := rfl

theorem cmp_scale (a b : Int) (k : Nat) (hk : 0 < k) : compare (a * k) (b * k) = compare a b := by
  rw [cmp_int, cmp_int]
  have h1 : a * k < b * k ↔ a < b := Int.mul_lt_mul_right (by omega)
  have h2 : a * k = b * k ↔ a = b := Int.mul_eq_mul_right_iff (by omega)
  simp only [h1, h2]

theorem signed_scale (s : Bool) (m e u : Nat) (h : u ≤ e) : signed s m (e - u) * (2 ^ u : Nat) = sg s (m * 2 ^ e) := by
  unfold signed sg
  have : m <<< (e - u) * 2 ^ u = m * 2 ^ e := by
    rw [Nat.shiftLeft_eq, Nat.mul_assoc, ← Nat.pow_add, Nat.sub_add_cancel h]
  cases s
  · simp only [Bool.false_eq_true, if_false]
    rw [← this]; simp
  · simp only [if_true]
    rw [← this, Int.neg_mul]; simp

theorem order_num (s t : Bool) (m n e f : Nat) :
    Datum.order (.number s m (-1074 + (e : Nat))) (.number t n (-1074 + (f : Nat))) = some (compare (sg s (m * 2 ^ e)) (sg t (n * 2 ^ f))) := by
  show some _ = some _
  congr 1
  have e1 : ((-1074 + (e : Int)) - min (-1074 + (e : Int)) (-1074 + (f : Int))).toNat = e - min e f := by omega
  have e2 : ((-1074 + (f : Int)) - min (-1074 + (e : Int)) (-1074 + (f : Int))).toNat = f - min e f := by omega
  simp only [e1, e2]
  rw [← cmp_scale _ _ (2 ^ min e f) (Nat.two_pow_pos _), signed_scale _ _ _ _ (Nat.min_le_left ..), signed_scale _ _ _ _ (Nat.min_le_right ..)]

theorem sg_cmp (s t : Bool) (r q : Nat) : compare (sg s (mg r)) (sg t (mg q)) = compare (sg s r) (sg t q) := by
  have h0 : mg 0 = 0 := rfl
  have hr : r = 0 ∨ (0 < r ∧ 0 < mg r) := by
    by_cases h : r = 0
    · exact .inl h
    · exact .inr ⟨by omega, by have := mg_lt (show 0 < r by omega); omega⟩
  have hq : q = 0 ∨ (0 < q ∧ 0 < mg q) := by
    by_cases h : q = 0
    · exact .inl h
    · exact .inr ⟨by omega, by have := mg_lt (show 0 < q by omega); omega⟩
  have l1 := @mg_lt_iff r q
  have l2 := @mg_lt_iff q r
  have l3 : mg r = mg q ↔ r = q := ⟨mg_inj, fun h => by rw [h]⟩
  rw [cmp_int, cmp_int]
  have a1 : sg s (mg r) < sg t (mg q) ↔ sg s r < sg t q := by
    cases s <;> cases t <;> simp only [sg, if_true, if_false, Bool.false_eq_true]
    · omega
    · rcases hr with rfl | ⟨_, _⟩ <;> rcases hq with rfl | ⟨_, _⟩ <;> omega
    · rcases hr with rfl | ⟨_, _⟩ <;> rcases hq with rfl | ⟨_, _⟩ <;> omega
    · omega
  have a2 : sg s (mg r) = sg t (mg q) ↔ sg s r = sg t q := by
    cases s <;> cases t <;> simp only [sg, if_true, if_false, Bool.false_eq_true]
    · omega
    · rcases hr with rfl | ⟨_, _⟩ <;> rcases hq with rfl | ⟨_, _⟩ <;> omega
    · rcases hr with rfl | ⟨_, _⟩ <;> rcases hq with rfl | ⟨_, _⟩ <;> omega
    · omega
  simp only [a1, a2]

theorem sr_eq (x : Nat) : sr x = sg (x / 9223372036854775808 % 2 == 1) (x % 9223372036854775808) := by
  unfold sr sg
  by_cases h : x / 9223372036854775808 % 2 = 1 <;> simp [h]

theorem cmp_inf_r (s t : Bool) (r i : Nat) (h : r < i) : compare (sg s r) (sg t i) = if t then .gt else .lt := by
  rw [cmp_int]
  cases s <;> cases t <;> simp only [sg, if_true, if_false, Bool.false_eq_true]
  · rw [if_pos (by omega)]
  · rw [if_neg (by omega), if_neg (by omega)]
  · rw [if_pos (by omega)]
  · rw [if_neg (by omega), if_neg (by omega)]
theorem cmp_inf_l (s t : Bool) (r i : Nat) (h : r < i) : compare (sg t i) (sg s r) = if t then .lt else .gt := by
  rw [cmp_int]
  cases s <;> cases t <;> simp only [sg, if_true, if_false, Bool.false_eq_true]
  · rw [if_neg (by omega), if_neg (by omega)]
  · rw [if_pos (by omega)]
  · rw [if_neg (by omega), if_neg (by omega)]
  · rw [if_pos (by omega)]

theorem order_double (x y : Nat) : double.order x y = if isnan x || isnan y then none else some (compare (sr x) (sr y)) := by
  unfold Format.order
  have tri : ∀ z : Nat, z % 9223372036854775808 < 9218868437227405312 ∨ z % 9223372036854775808 = 9218868437227405312 ∨ 9218868437227405312 < z % 9223372036854775808 := fun z => by omega
  rcases tri x with hx | hx | hx
  · have nx : isnan x = false := by simp [isnan]; omega
    rcases tri y with hy | hy | hy
    · have ny : isnan y = false := by simp [isnan]; omega
      rw [nx, ny, read_num x hx, read_num y hy, order_num, ← mg_eq, ← mg_eq, sg_cmp, sr_eq, sr_eq]
      rfl
    · have ny : isnan y = false := by simp [isnan]; omega
      rw [nx, ny, read_num x hx, read_inf y hy, sr_eq, sr_eq, hy, cmp_inf_r _ _ _ _ hx]
      rfl
    · have ny : isnan y = true := by simp [isnan]; omega
      rw [nx, ny, read_num x hx, read_nan y hy]; rfl
  · have nx : isnan x = false := by simp [isnan]; omega
    rcases tri y with hy | hy | hy
    · have ny : isnan y = false := by simp [isnan]; omega
      rw [nx, ny, read_inf x hx, read_num y hy, sr_eq, sr_eq, hx, cmp_inf_l _ _ _ _ hy]
      rfl
    · have ny : isnan y = false := by simp [isnan]; omega
      rw [nx, ny, read_inf x hx, read_inf y hy, sr_eq, sr_eq, hx, hy, cmp_int]
      cases hs : (y / 9223372036854775808 % 2 == 1) <;> cases (x / 9223372036854775808 % 2 == 1) <;> simp [Datum.order, sg] <;> decide
    · have ny : isnan y = true := by simp [isnan]; omega
      rw [nx, ny, read_inf x hx, read_nan y hy]; rfl
  · have nx : isnan x = true := by simp [isnan]; omega
    rw [nx, read_nan x hx]; rfl
end Go.Proofs.Yteoebfjhadmnbaa
/- Plain facts on the bits of words of 32 and 64 binary digits, at the highest one. No program in sight. -/
namespace Go.Proofs.Yteoebfjhadmnbaa
theorem nxor_high (i x : Nat) (hx : x < 2 ^ i * 2) : x ^^^ 2 ^ i = if x < 2 ^ i then x + 2 ^ i else x - 2 ^ i := by
  have hp : 0 < 2 ^ i := Nat.two_pow_pos i
  have h1 : (x ^^^ 2 ^ i) / 2 ^ i = x / 2 ^ i ^^^ 1 := by rw [Nat.xor_div_two_pow, Nat.div_self hp]
  have h2 : (x ^^^ 2 ^ i) % 2 ^ i = x % 2 ^ i := by rw [Nat.xor_mod_two_pow, Nat.mod_self]; simp
  have h3 := Nat.div_add_mod (x ^^^ 2 ^ i) (2 ^ i)
  have h4 := Nat.div_add_mod x (2 ^ i)
  rw [h1, h2] at h3
  by_cases h : x < 2 ^ i
  · rw [if_pos h]
    rw [Nat.div_eq_of_lt h] at h3
    rw [Nat.mod_eq_of_lt h] at h3
    simp at h3
    omega
  · rw [if_neg h]
    have hd : x / 2 ^ i = 1 := by
      have := (Nat.div_lt_iff_lt_mul hp).2 (show x < 2 * 2 ^ i by omega)
      have := (Nat.le_div_iff_mul_le hp).2 (show 1 * 2 ^ i ≤ x by omega)
      omega
    rw [hd] at h3 h4
    simp at h3
    rw [Nat.mul_one] at h4
    omega

theorem nnot (n x : Nat) (hx : x < 2 ^ n) : (2 ^ n - 1) ^^^ x = 2 ^ n - 1 - x := by
  have h := BitVec.toNat_not (x := BitVec.ofNat n x)
  rw [← BitVec.allOnes_xor, BitVec.toNat_xor, BitVec.toNat_allOnes, BitVec.toNat_ofNat, Nat.mod_eq_of_lt hx] at h
  exact h

theorem u64_xor_high (x : Int) (h0 : 0 ≤ x) (h1 : x ≤ 18446744073709551615) : bits .xor .u64 x 9223372036854775808 = if x < 9223372036854775808 then x + 9223372036854775808 else x - 9223372036854775808 := by
  obtain ⟨n, rfl⟩ := Int.eq_ofNat_of_zero_le h0
  have := u64_xor_nat n 9223372036854775808 (by omega) (by omega)
  rw [show ((9223372036854775808 : Nat) : Int) = 9223372036854775808 from rfl] at this
  rw [this, show (9223372036854775808 : Nat) = 2 ^ 63 from rfl, nxor_high 63 n (by omega)]
  split <;> split <;> omega

theorem u64_not (x : Int) (h0 : 0 ≤ x) (h1 : x ≤ 18446744073709551615) : bits .xor .u64 18446744073709551615 x = 18446744073709551615 - x := by
  obtain ⟨n, rfl⟩ := Int.eq_ofNat_of_zero_le h0
  have := u64_xor_nat 18446744073709551615 n (by omega) (by omega)
  rw [show ((18446744073709551615 : Nat) : Int) = 18446744073709551615 from rfl] at this
  rw [this, show (18446744073709551615 : Nat) = 2 ^ 64 - 1 from rfl, nnot 64 n (by omega)]
  omega

theorem u64_or_high (x : Int) (h0 : 0 ≤ x) (h1 : x < 9223372036854775808) : bits .or .u64 x 9223372036854775808 = x + 9223372036854775808 := by
  obtain ⟨n, rfl⟩ := Int.eq_ofNat_of_zero_le h0
  have := u64_or_nat n 9223372036854775808 (by omega) (by omega)
  rw [show ((9223372036854775808 : Nat) : Int) = 9223372036854775808 from rfl] at this
  rw [this, Nat.or_comm, nat_join 63 9223372036854775808 n (by decide) (by omega)]
  omega

theorem u64_and_high (x : Int) (h0 : 0 ≤ x) (h1 : x ≤ 18446744073709551615) : (bits .and .u64 x 9223372036854775808 != 0) = decide (9223372036854775808 ≤ x) := by
  obtain ⟨n, rfl⟩ := Int.eq_ofNat_of_zero_le h0
  have := u64_and_nat n 9223372036854775808 (by omega) (by omega)
  rw [show ((9223372036854775808 : Nat) : Int) = 9223372036854775808 from rfl] at this
  rw [this, show (9223372036854775808 : Nat) = 2 ^ 63 from rfl, nat_bit]
  by_cases h : 9223372036854775808 ≤ n
  · have e : n / 2 ^ 63 % 2 = 1 := by omega
    have : (9223372036854775808 : Int) ≤ n := by omega
    simp [this, e]
  · have e : n / 2 ^ 63 % 2 = 0 := by omega
    have : ¬ (9223372036854775808 : Int) ≤ n := by omega
    simp [this, e]

theorem u64_clear_high (x : Int) (h0 : 9223372036854775808 ≤ x) (h1 : x ≤ 18446744073709551615) : bits .andNot .u64 x 9223372036854775808 = x - 9223372036854775808 := by
  obtain ⟨n, rfl⟩ := Int.eq_ofNat_of_zero_le (show 0 ≤ x by omega)
  have := u64_andNot_nat n 9223372036854775808 (by omega) (by omega)
  rw [show ((9223372036854775808 : Nat) : Int) = 9223372036854775808 from rfl] at this
  rw [this, show (18446744073709551615 - 9223372036854775808 : Nat) = 2 ^ 63 - 1 from rfl, Nat.and_two_pow_sub_one_eq_mod]
  omega

theorem u32_xor_high (x : Int) (h0 : 0 ≤ x) (h1 : x ≤ 4294967295) : bits .xor .u32 x 2147483648 = if x < 2147483648 then x + 2147483648 else x - 2147483648 := by
  obtain ⟨n, rfl⟩ := Int.eq_ofNat_of_zero_le h0
  have := u32_xor_nat n 2147483648 (by omega) (by omega)
  rw [show ((2147483648 : Nat) : Int) = 2147483648 from rfl] at this
  rw [this, show (2147483648 : Nat) = 2 ^ 31 from rfl, nxor_high 31 n (by omega)]
  split <;> split <;> omega

theorem u64_join (x y : Int) (h0 : 0 ≤ x) (h1 : x ≤ 18446744073709551615) (hm : x % 4294967296 = 0) (h2 : 0 ≤ y) (h3 : y < 4294967296) : bits .or .u64 x y = x + y := by
  obtain ⟨n, rfl⟩ := Int.eq_ofNat_of_zero_le h0
  obtain ⟨m, rfl⟩ := Int.eq_ofNat_of_zero_le h2
  rw [u64_or_nat n m (by omega) (by omega), nat_join 32 n m (by omega) (by omega)]
  omega
end Go.Proofs.Yteoebfjhadmnbaa
/- The bits of a float and back, NaN, and the comparisons of floats in plain words, for the walks. -/
namespace Go.Proofs.Yteoebfjhadmnbaa
open Go.RowKit

theorem ret_int {k : IntKind} {a b : Int} (h : a = b) : Ending.returned (.int k a) = .returned (.int k b) := by rw [h]
theorem ret_bool {a b : Bool} (h : a = b) : Ending.returned (.bool a) = .returned (.bool b) := by rw [h]
theorem ret_float {k : FloatKind} {a b : Nat} (h : a = b) : Ending.returned (.float k a) = .returned (.float k b) := by rw [h]
theorem ret_ii {k l : IntKind} {a b c d : Int} (h : a = b) (h' : c = d) : Ending.returned (.tuple #[.int k a, .int l c]) = .returned (.tuple #[.int k b, .int l d]) := by rw [h, h']
theorem ret_ib {k : IntKind} {a b : Int} {c d : Bool} (h : a = b) (h' : c = d) : Ending.returned (.tuple #[.int k a, .bool c]) = .returned (.tuple #[.int k b, .bool d]) := by rw [h, h']
theorem ret_fb {k : FloatKind} {a b : Nat} {c d : Bool} (h : a = b) (h' : c = d) : Ending.returned (.tuple #[.float k a, .bool c]) = .returned (.tuple #[.float k b, .bool d]) := by rw [h, h']

/-- a < b, of two doubles. -/
def fLt (a b : Nat) : Bool := !isnan a && !isnan b && decide (sr a < sr b)
/-- a == b, of two doubles. -/
def fEq (a b : Nat) : Bool := !isnan a && !isnan b && decide (sr a = sr b)

theorem order64 (a b : Nat) : FloatKind.f64.format.order a b = if isnan a || isnan b then none else some (compare (sr a) (sr b)) := order_double a b

@[go_sem] theorem u64_signed : IntKind.u64.signed = false := rfl
@[go_sem] theorem u64_max : IntKind.u64.max = 18446744073709551615 := rfl

@[go_sem] theorem ord_self (a : Nat) : (FloatKind.f64.format.order a a != some .eq) = isnan a := by
  rw [order64, cmp_int]
  cases h : isnan a <;> simp
@[go_sem] theorem ord_lt (a b : Nat) : (FloatKind.f64.format.order a b == some .lt) = fLt a b := by
  rw [order64, cmp_int]
  unfold fLt
  cases h : isnan a <;> cases h' : isnan b <;> simp
  by_cases h1 : sr a < sr b
  · simp [h1]
  · by_cases h2 : sr a = sr b <;> simp [h1, h2]
@[go_sem] theorem ord_gt (a b : Nat) : (FloatKind.f64.format.order a b == some .gt) = fLt b a := by
  rw [order64, cmp_int]
  unfold fLt
  cases h : isnan a <;> cases h' : isnan b <;> simp
  by_cases h1 : sr a < sr b
  · have : ¬ sr b < sr a := by omega
    simp [h1, this]
  · by_cases h2 : sr a = sr b
    · simp [h2]
    · have : sr b < sr a := by omega
      simp [h1, h2, this]
@[go_sem] theorem ord_eq (a b : Nat) : (FloatKind.f64.format.order a b == some .eq) = fEq a b := by
  rw [order64, cmp_int]
  unfold fEq
  cases h : isnan a <;> cases h' : isnan b <;> simp
  by_cases h1 : sr a < sr b
  · have : ¬ sr a = sr b := by omega
    simp [h1, this]
  · by_cases h2 : sr a = sr b
    · simp [h2]
    · simp [h1, h2]
@[go_sem] theorem ord_ne (a b : Nat) : (FloatKind.f64.format.order a b != some .eq) = !fEq a b := by
  rw [← ord_eq]; rfl

@[go_sem] theorem run_frombits (x : Int) (w : World) : (callFunc 54 #[.int .u64 x]).run Try.prog w = .ok (.value (.float .f64 x.toNat)) w :=
  run_callFunc_extern (fn := Try.f54) (e := Extern.MathFloatBits.float64frombits) (by kernel_rfl) (by kernel_rfl) (by kernel_rfl) (by kernel_rfl) (by kernel_rfl) #[.int .u64 x] w
@[go_sem] theorem run_bits (b : Nat) (w : World) : (callFunc 43 #[.float .f64 b]).run Try.prog w = .ok (.value (.int .u64 b)) w :=
  run_callFunc_extern (fn := Try.f43) (e := Extern.MathFloatBits.float64bits) (by kernel_rfl) (by kernel_rfl) (by kernel_rfl) (by kernel_rfl) (by kernel_rfl) #[.float .f64 b] w

end Go.Proofs.Yteoebfjhadmnbaa
/- Slices that a call has made, cut and appended to: their cells, whatever their address and capacity; one law for every append. -/
namespace Go.Proofs.Yteoebfjhadmnbaa
open Go.RowKit

section
variable {w w' : World} {B : Nat} {e : TypeId} {size : Nat} {v : Value} {n : Nat} {xs : List Value}

/-- The slice v has n elements, whose cells are xs; they lie in a block from B on, with room up to its capacity. -/
def Rowv (w : World) (B : Nat) (e : TypeId) (size : Nat) (v : Value) (n : Nat) (xs : List Value) : Prop :=
  xs.length = n * size ∧ ((v = .slice none 0 0 ∧ n = 0) ∨
    ∃ g off cap cur, v = .slice (some ⟨g, off, none⟩) n cap ∧ B ≤ g ∧ w.heap[g]? = some (.cells cur e (0, 0)) ∧ n ≤ cap ∧ cap ≤ maxLen ∧ off + cap * size ≤ cur.size ∧ (cur.toList.drop off).take (n * size) = xs)

theorem Rowv.nil (w : World) (B : Nat) (e : TypeId) (size : Nat) : Rowv w B e size (.slice none 0 0) 0 [] := ⟨by simp, .inl ⟨rfl, rfl⟩⟩
theorem Rowv.of_own (h : w.ownsRow B e size v n xs) : Rowv w B e size v n xs := by
  obtain ⟨h0, h⟩ := h
  refine ⟨h0, h.imp id ?_⟩
  rintro ⟨g, cap, cur, h1, h2, h3, h4, h5, h6, h7⟩
  exact ⟨g, 0, cap, cur, h1, h2, h3, h4, h5, by omega, by simpa using h7⟩
theorem Rowv.lt (h : Rowv w B e size v n xs) {k : Nat} (hk : v.ownBlock = some k) : B ≤ k ∧ k < w.heap.size := by
  rcases h.2 with ⟨rfl, _⟩ | ⟨g, off, cap, cur, rfl, h2, h3, _⟩
  · cases hk
  · obtain rfl : g = k := by simpa [Value.ownBlock] using hk
    refine ⟨h2, ?_⟩
    rcases Nat.lt_or_ge g w.heap.size with hl | hg
    · exact hl
    · rw [Array.getElem?_eq_none hg] at h3; cases h3
theorem Rowv.keep (h : Rowv w B e size v n xs) (hk : ∀ k, v.ownBlock = some k → w'.heap[k]? = w.heap[k]?) : Rowv w' B e size v n xs := by
  obtain ⟨h0, h⟩ := h
  refine ⟨h0, h.imp id ?_⟩
  rintro ⟨g, off, cap, cur, rfl, h2, h3, h4⟩
  exact ⟨g, off, cap, cur, rfl, h2, (hk g rfl).trans h3, h4⟩
theorem Rowv.keepLt (h : Rowv w B e size v n xs) (hk : ∀ k, B ≤ k → k < w.heap.size → v.ownBlock = some k → w'.heap[k]? = w.heap[k]?) : Rowv w' B e size v n xs :=
  h.keep fun k h1 => hk k (h.lt h1).1 (h.lt h1).2 h1
theorem Rowv.base (h : Rowv w B e size v n xs) {B' : Nat} (hb : ∀ k, v.ownBlock = some k → B' ≤ k) : Rowv w B' e size v n xs := by
  obtain ⟨h0, h⟩ := h
  refine ⟨h0, h.imp id ?_⟩
  rintro ⟨g, off, cap, cur, rfl, h2, h3⟩
  exact ⟨g, off, cap, cur, rfl, hb g rfl, h3⟩
theorem Rowv.shape (h : Rowv w B e size v n xs) : ∃ A cap, v = .slice A n cap ∧ n ≤ cap ∧ (A = none → n = 0 ∧ cap = 0) := by
  rcases h.2 with ⟨rfl, rfl⟩ | ⟨g, off, cap, cur, rfl, _, _, h4, _⟩
  · exact ⟨none, 0, rfl, Nat.le_refl _, fun _ => ⟨rfl, rfl⟩⟩
  · exact ⟨_, cap, rfl, h4, fun h => nomatch h⟩
/-- Where its cells lie. -/
theorem Rowv.at_ (h : Rowv w B e size v n xs) (hn : 0 < n) : ∃ g off cap, v = .slice (some ⟨g, off, none⟩) n cap ∧ B ≤ g ∧ g < w.heap.size ∧ n ≤ cap ∧
    ∀ j, j < n * size → w.cell? ⟨g, off + j, none⟩ = xs[j]? ∧ w.frozen? ⟨g, off + j, none⟩ = false := by
  have h' := h
  rcases h.2 with ⟨rfl, rfl⟩ | ⟨g, off, cap, cur, rfl, h2, h3, h4, h5, h6, h7⟩
  · omega
  · refine ⟨g, off, cap, rfl, h2, (h'.lt rfl).2, h4, fun j hj => ⟨?_, by simp [World.frozen?, h3]⟩⟩
    have hc : w.cell? ⟨g, off + j, none⟩ = cur[off + j]? := by simp [World.cell?, h3]
    rw [hc, ← h7, List.getElem?_take, if_pos hj, List.getElem?_drop, Array.getElem?_toList]

/-- A shorter slice of it, the capacity cut or not. -/
theorem Rowv.cut {A : Option Addr} {cap : Nat} (h : Rowv w B e size (.slice A n cap) n xs) {m c : Nat} (hm : m ≤ n) (hmc : m ≤ c) (hc : c ≤ cap) : Rowv w B e size (.slice A m c) m (xs.take (m * size)) := by
  have hmul : m * size ≤ n * size := Nat.mul_le_mul_right _ hm
  have hmul2 : c * size ≤ cap * size := Nat.mul_le_mul_right _ hc
  refine ⟨by rw [List.length_take, h.1]; omega, ?_⟩
  rcases h.2 with ⟨h1, rfl⟩ | ⟨g, off, cap', cur, h1, h2, h3, h4, h5, h6, h7⟩
  · injection h1 with h1 _ h3
    subst h1
    obtain rfl : m = 0 := by omega
    obtain rfl : c = 0 := by omega
    exact .inl ⟨rfl, rfl⟩
  · injection h1 with h1 _ h8
    subst h1
    subst h8
    exact .inr ⟨g, off, c, cur, rfl, h2, h3, hmc, by omega, by omega, by rw [← h7, List.take_take, Nat.min_eq_left hmul]⟩
/-- What stands behind its first elements. -/
theorem Rowv.behind {g off cap : Nat} (h : Rowv w B e size (.slice (some ⟨g, off, none⟩) n cap) n xs) {m : Nat} (hm : m ≤ n) (hc : m < cap) : Rowv w B e size (.slice (some ⟨g, off + m * size, none⟩) (n - m) (cap - m)) (n - m) (xs.drop (m * size)) := by
  have hmul : m * size ≤ n * size := Nat.mul_le_mul_right _ hm
  have hmul2 : m * size ≤ cap * size := Nat.mul_le_mul_right _ (Nat.le_of_lt hc)
  refine ⟨by rw [List.length_drop, h.1, Nat.sub_mul], ?_⟩
  rcases h.2 with ⟨h1, rfl⟩ | ⟨g', off', cap', cur, h1, h2, h3, h4, h5, h6, h7⟩
  · cases h1
  · injection h1 with h1 _ h8
    simp only [Option.some.injEq, Addr.mk.injEq, and_true] at h1
    obtain ⟨rfl, rfl⟩ := h1
    subst h8
    refine .inr ⟨g, off + m * size, cap - m, cur, rfl, h2, h3, by omega, by omega, by rw [Nat.sub_mul]; omega, ?_⟩
    rw [← h7, List.drop_take, List.drop_drop, Nat.sub_mul]
theorem Rowv.behindAll {A : Option Addr} {cap : Nat} (h : Rowv w B e size (.slice A n cap) n xs) : Rowv w B e size (.slice A 0 0) 0 [] := by
  have := h.cut (m := 0) (c := 0) (Nat.zero_le _) (Nat.le_refl _) (Nat.zero_le _)
  simpa using this

/-- The cells from o on, set one by one. -/
def setAll : Array Value → Nat → List Value → Array Value
  | cur, _, [] => cur
  | cur, o, u :: r => setAll (cur.setIfInBounds o u) (o + 1) r
theorem setAll_size : ∀ (vs : List Value) (cur : Array Value) (o : Nat), (setAll cur o vs).size = cur.size
  | [], _, _ => rfl
  | u :: r, cur, o => by rw [setAll, setAll_size r]; simp
theorem setAll_get : ∀ (vs : List Value) (cur : Array Value) (o j : Nat), (setAll cur o vs)[j]? = if o ≤ j ∧ j < o + vs.length ∧ j < cur.size then vs[j - o]? else cur[j]?
  | [], cur, o, j => by rw [setAll, if_neg (by simp; omega)]
  | u :: r, cur, o, j => by
    rw [setAll, setAll_get r]
    simp only [Array.size_setIfInBounds, List.length_cons]
    by_cases h1 : o = j
    · subst h1
      rw [if_neg (by omega)]
      by_cases h2 : o < cur.size
      · rw [if_pos (by omega)]; simp [h2]
      · rw [if_neg (by omega)]; simp [h2]
    · rw [Array.getElem?_setIfInBounds_ne h1]
      by_cases h2 : o ≤ j ∧ j < o + (r.length + 1) ∧ j < cur.size
      · rw [if_pos h2, if_pos (by omega), show j - o = (j - (o + 1)) + 1 by omega]
        simp
      · rw [if_neg h2, if_neg (by omega)]
theorem heap_setCells (b : Nat) : ∀ (vs : List Value) (o : Nat) (w : World) (cur : Array Value), w.heap[b]? = some (.cells cur e (0, 0)) →
    (w.setCells b o vs).heap[b]? = some (.cells (setAll cur o vs) e (0, 0)) ∧ (∀ k, k ≠ b → (w.setCells b o vs).heap[k]? = w.heap[k]?) ∧ (w.setCells b o vs).heap.size = w.heap.size ∧
      (w.setCells b o vs).os = w.os ∧ (w.setCells b o vs).tape = w.tape ∧ (w.setCells b o vs).output = w.output
  | [], _, _, _, h => ⟨h, fun _ _ => rfl, rfl, rfl, rfl, rfl⟩
  | u :: r, o, w, cur, h => by
    obtain ⟨h1, h2, h3, h4, h5, h6⟩ := heap_setCells b r (o + 1) (w.setCell ⟨b, o, none⟩ u) (cur.setIfInBounds o u) (by simp [World.setCell, Array.getElem?_modify, h])
    refine ⟨h1, fun k hk => ?_, ?_, h4.trans rfl, h5.trans rfl, h6.trans rfl⟩
    · rw [World.setCells, h2 k hk]
      exact Below.heap_setCell w ⟨b, o, none⟩ u k hk
    · rw [World.setCells, h3]; simp [World.setCell]

/-- A source of an append: its cells. -/
def Src (w : World) (v : Value) (m size : Nat) (news : List Value) : Prop :=
  (v = .slice none 0 0 ∧ m = 0 ∧ news = []) ∨ ∃ ad c, v = .slice (some ad) m c ∧ news.length = m * size ∧ (∀ j u, news[j]? = some u → w.cell? (ad.add j) = some u) ∧ ∀ u ∈ news, u.oneCell' = true
theorem Rowv.src (h : Rowv w B e size v n xs) (h1 : ∀ u ∈ xs, u.oneCell' = true) : Src w v n size xs := by
  rcases h.2 with ⟨rfl, rfl⟩ | ⟨g, off, cap, cur, rfl, h2, h3, h4, h5, h6, h7⟩
  · exact .inl ⟨rfl, rfl, List.eq_nil_of_length_eq_zero (by simpa using h.1)⟩
  · refine .inr ⟨_, cap, rfl, h.1, fun j u hj => ?_, h1⟩
    have hjl : j < n * size := by rw [← h.1]; exact (List.getElem?_eq_some_iff.1 hj).1
    have hc : w.cell? ⟨g, off + j, none⟩ = cur[off + j]? := by simp [World.cell?, h3]
    rw [Addr.add_lit, hc, ← hj, ← h7, List.getElem?_take, if_pos hjl, List.getElem?_drop, Array.getElem?_toList]
theorem Src.lit (w : World) {vs : List Value} {e : TypeId} {m size : Nat} (hm : vs.length = m * size) (h1 : ∀ u ∈ vs, u.oneCell' = true) (c : Nat) : Src (w.alloc (.cells vs.toArray e)) (.slice (some ⟨w.heap.size, 0, none⟩) m c) m size vs := by
  refine .inr ⟨_, c, rfl, hm, fun j u hj => ?_, h1⟩
  rw [Addr.add_lit, cell_of_row _ _ _ _ _ _ (heap_alloc_new w _)]
  simpa using hj

/-- append, whatever is appended to a slice that the call has made. -/
theorem wpList_app {P : Program} (w : World) {ops : Array Oper} {rest : List Oper} {o : Oper} {a : Act} {Q : Exit → Act → World → Prop} (hg : o.guard = none) (s x : Operand) (t : TypeId)
    (hop : o.op = Op.call { callee := Callee.builtin Builtin.append, args := #[s, x], argTypes := #[t, t] }) (e : TypeId) (i : TypeInfo) (z : Value) (size bytes : Nat) (h1 : P.underlying t = some (.slice e)) (h2 : P.info? e = some i) (h3 : i.zero = some z) (h4 : i.size = size) (h5 : i.bytes = bytes) (h6 : z.cells.size = size) (h7 : 0 < size)
    (B : Nat) (v : Value) (n : Nat) (xs : List Value) (hs : a.eval s = v) (hrow : Rowv w B e size v n xs) (u : Value) (m : Nat) (news : List Value) (hx : a.eval x = u) (hsrc : Src w u m size news) (b1 : n + m ≤ maxLen) (b2 : (n + m) * bytes ≤ 140737488355328) (hB : B ≤ w.heap.size)
    (hK : ∀ v' w', Rowv w' B e size v' (n + m) (xs ++ news) → w.grownBy w' v.ownBlock → (v'.ownBlock = v.ownBlock ∨ ∃ k, v'.ownBlock = some k ∧ w.heap.size ≤ k) → wpList P ops Q rest (a.put o.dst v') w') :
    wpList P ops Q (o :: rest) a w := by
  rcases hsrc with ⟨rfl, rfl, rfl⟩ | ⟨ad, c, rfl, hn, hc, h1c⟩
  · refine wpList_plain hg fun K hK' => ?_
    have hrun : (Builtin.append_ #[t, t] o.type #[v, .slice none 0 0]).run P w = .ok v w := by
      rcases hrow.2 with ⟨rfl, rfl⟩ | ⟨g, off, cap, cur, rfl, _, _, hnc, _⟩
      · simp [Builtin.append_, run_underlying h1, sizeOf, typeInfo, h2, Builtin.lenOf, Builtin.firstCells]
      · simp [Builtin.append_, run_underlying h1, sizeOf, typeInfo, h2, Builtin.lenOf, Builtin.firstCells, hnc, storeCells]
    unfold Oper.wp
    simp [execOp, hop, resolve, invoke, builtin, hs, hx, hrun, Result.andThen]
    exact hK' _ _ (hK v w (by simpa using hrow) ⟨rfl, rfl, rfl, Nat.le_refl _, fun _ _ _ => rfl⟩ (.inl rfl))
  · rcases hrow.2 with ⟨rfl, rfl⟩ | ⟨g, off, cap, cur, rfl, k2, k3, k4, k5, k6, k7⟩
    · have e0 : xs = [] := List.eq_nil_of_length_eq_zero (by simpa using hrow.1)
      subst e0
      refine wpList_append_own w hg s x t hop w.heap.size e i z size bytes h1 h2 h3 h4 h5 h6 h7 (.slice none 0 0) 0 [] hs (World.ownsRow_nil w w.heap.size e size) ad m c news hx hn hc h1c b1 b2 (Nat.le_refl _) ?_
      intro v' w' hown hgr hnil
      have hr := Rowv.of_own hown
      refine hK v' w' (hr.base fun k hk => Nat.le_trans hB (hr.lt hk).1) hgr ?_
      by_cases hm : m = 0
      · left; rw [hnil.2 ⟨rfl, hm⟩]
      · rcases hown.2 with ⟨h, _⟩ | ⟨g, cap, cur, rfl, hb, hh, _⟩
        · exact absurd (hnil.1 h).2 hm
        · exact .inr ⟨g, rfl, hb⟩
    · have hcell : ∀ j, w.cell? ⟨g, off + j, none⟩ = cur[off + j]? := fun j => by simp [World.cell?, k3]
      have hmul : (n + m) * size = n * size + m * size := Nat.add_mul n m size
      refine wpList_append_arg w hg s x t hop e i z size bytes h1 h2 h3 h4 h5 h6 h7 g off n cap xs hs hrow.1 (fun j u hj => ?_) ad m c news hx hn hc h1c (fun hr j hj => ?_) b1 b2 (fun hr => ?_) (fun _ v' w' hown hgr => ?_)
      · have hjl : j < n * size := by rw [← hrow.1]; exact (List.getElem?_eq_some_iff.1 hj).1
        rw [hcell, ← hj, ← k7, List.getElem?_take, if_pos hjl, List.getElem?_drop, Array.getElem?_toList]
      · have hle : (n + m) * size ≤ cap * size := Nat.mul_le_mul_right _ hr
        refine ⟨?_, by simp [World.frozen?, k3]⟩
        rw [Nat.add_assoc, hcell, Array.getElem?_eq_getElem (by omega)]
        rfl
      · have hle : (n + m) * size ≤ cap * size := Nat.mul_le_mul_right _ hr
        obtain ⟨q1, q2, q3, q4, q5, q6⟩ := heap_setCells g news (off + n * size) w cur k3
        refine hK _ _ ⟨by rw [List.length_append, hrow.1, hn, hmul], .inr ⟨g, off, cap, _, rfl, k2, q1, hr, k5, by rw [setAll_size]; exact k6, ?_⟩⟩ ⟨q4, q5, q6, by rw [q3]; exact Nat.le_refl _, fun k _ hk => q2 k fun h => hk (by rw [h]; rfl)⟩ (.inl rfl)
        apply List.ext_getElem?
        intro j
        rw [List.getElem?_take, List.getElem?_drop, Array.getElem?_toList, setAll_get]
        by_cases hj : j < (n + m) * size
        · rw [if_pos hj]
          by_cases hj2 : j < n * size
          · rw [if_neg (by omega), List.getElem?_append_left (by rw [hrow.1]; exact hj2), ← k7, List.getElem?_take, if_pos hj2, List.getElem?_drop, Array.getElem?_toList]
          · rw [if_pos (by omega), List.getElem?_append_right (by rw [hrow.1]; omega), hrow.1]
            congr 1
            omega
        · rw [if_neg hj, List.getElem?_eq_none (by rw [List.length_append, hrow.1, hn]; omega)]
      · have hr := Rowv.of_own hown
        have hb : ∀ k, v'.ownBlock = some k → w.heap.size ≤ k := fun k hk => (hr.lt hk).1
        refine hK v' w' (hr.base fun k hk => Nat.le_trans hB (hb k hk)) ⟨hgr.os, hgr.tape, hgr.output, hgr.size, fun k h _ => hgr.block k h (fun h => nomatch h)⟩ ?_
        rcases hown.2 with ⟨rfl, h⟩ | ⟨g', cap', cur', rfl, hb', _⟩
        · omega
        · exact .inr ⟨g', rfl, hb'⟩
end
end Go.Proofs.Yteoebfjhadmnbaa
/- Words for memory: a block that is known whole; what has turned between two worlds, by blocks. -/
namespace Go.Proofs.Yteoebfjhadmnbaa
open Go.RowKit

theorem bd_u64 {x : Int} (h : (Lit.int .u64 x).wf = true) : 0 ≤ x ∧ x ≤ 18446744073709551615 := by
  simp [Lit.wf, IntKind.min, IntKind.max, IntKind.signed, IntKind.bits] at h
  omega
theorem bd_i64 {x : Int} (h : (Lit.int .i64 x).wf = true) : -9223372036854775808 ≤ x ∧ x ≤ 9223372036854775807 := by
  simp [Lit.wf, IntKind.min, IntKind.max, IntKind.signed, IntKind.bits] at h
  omega
theorem wrap_u64_mod (x : Int) : IntKind.u64.wrap x = x % 18446744073709551616 := IntKind.wrap_u64 x

/-- Block g is just the cells cs of element type t, none of them frozen. -/
def Blk (w : World) (g : Nat) (t : TypeId) (cs : Array Value) : Prop := w.heap[g]? = some (.cells cs t (0, 0))
section
variable {w w' : World} {g : Nat} {t : TypeId} {cs : Array Value}
theorem Blk.lt (h : Blk w g t cs) : g < w.heap.size := by
  rcases Nat.lt_or_ge g w.heap.size with hlt | hge
  · exact hlt
  · unfold Blk at h; rw [Array.getElem?_eq_none hge] at h; cases h
theorem Blk.cell (h : Blk w g t cs) (i : Nat) : w.cell? ⟨g, i, none⟩ = cs[i]? := cell_of_row w g i cs t (0, 0) h
theorem Blk.frozen (h : Blk w g t cs) (i : Nat) : w.frozen? ⟨g, i, none⟩ = false := by
  unfold Blk at h
  simp [World.frozen?, h]
theorem Blk.new (w : World) (t : TypeId) (cs : Array Value) : Blk (w.alloc (.cells cs t)) w.heap.size t cs := heap_alloc_new w _
theorem Blk.alloc (h : Blk w g t cs) (o : Obj) : Blk (w.alloc o) g t cs := (Below.heap_alloc w o g h.lt).trans h
theorem Blk.set_ (h : Blk w g t cs) (i : Nat) (u : Value) : Blk (w.setCell ⟨g, i, none⟩ u) g t (cs.setIfInBounds i u) := by
  unfold Blk at h ⊢
  simp [World.setCell, Array.getElem?_modify, h]
theorem Blk.far (h : Blk w g t cs) {p : Addr} (hp : g ≠ p.block) (u : Value) : Blk (w.setCell p u) g t cs := (Below.heap_setCell w p u g hp).trans h
theorem Blk.below {B : Nat} (h : Blk w g t cs) (hb : Below B w w') (hg : g < B) : Blk w' g t cs := (hb.block g hg).trans h
theorem Blk.grown {row : Option Nat} (h : Blk w g t cs) (hb : w.grownBy w' row) (hg : some g ≠ row) : Blk w' g t cs := (hb.block g h.lt hg).trans h
theorem Blk.ne_ {g' : Nat} {t' : TypeId} {cs' : Array Value} (h : Blk w g t cs) (h' : Blk w g' t' cs') (hne : t ≠ t') : g ≠ g' := by
  rintro rfl
  unfold Blk at h h'
  rw [h] at h'
  injection h' with h'
  injection h' with _ ht
  exact hne ht
theorem Blk.drewN (h : Blk w g t cs) (n : Nat) : Blk (w.drewN n) g t cs := h
theorem Blk.uniq {t' : TypeId} {cs' : Array Value} (h : Blk w g t cs) (h' : Blk w g t' cs') : t = t' ∧ cs = cs' := by
  unfold Blk at h h'
  rw [h] at h'
  injection h' with h'
  injection h' with h1 h2
  exact ⟨h2, h1⟩
end
theorem bd_int {k : IntKind} {x : Int} (h : (Lit.int k x).wf = true) : k.min ≤ x ∧ x ≤ k.max := by
  simpa [Lit.wf] using h

/-- Beside the blocks of F nothing has turned from w to w'; what F' has besides F is new. -/
structure Fr (F : Nat → Prop) (w : World) (F' : Nat → Prop) (w' : World) : Prop where
  os : w'.os = w.os
  tape : w'.tape = w.tape
  output : w'.output = w.output
  size : w.heap.size ≤ w'.heap.size
  block : ∀ k, k < w.heap.size → ¬ F k → w'.heap[k]? = w.heap[k]?
  new : ∀ k, F' k → F k ∨ w.heap.size ≤ k
section
variable {F F' F'' G : Nat → Prop} {a w w' c : World}
theorem Fr.refl (F : Nat → Prop) (w : World) : Fr F w F w := ⟨rfl, rfl, rfl, Nat.le_refl _, fun _ _ _ => rfl, fun _ h => .inl h⟩
theorem Fr.trans (h : Fr F a F' w) (k : Fr F' w F'' c) : Fr F a F'' c :=
  ⟨k.os.trans h.os, k.tape.trans h.tape, k.output.trans h.output, Nat.le_trans h.size k.size,
    fun i hi hF => (k.block i (Nat.lt_of_lt_of_le hi h.size) fun h1 => (h.new i h1).elim hF fun h2 => by omega).trans (h.block i hi hF),
    fun i hi => (k.new i hi).elim (fun h1 => h.new i h1) fun h1 => .inr (Nat.le_trans h.size h1)⟩
/-- F may be taken wider. -/
theorem Fr.wide (h : Fr F a F' w) (hG : ∀ k, F k → G k) : Fr G a F' w :=
  ⟨h.os, h.tape, h.output, h.size, fun k hk hn => h.block k hk fun hf => hn (hG k hf), fun k hk => (h.new k hk).imp (hG k) id⟩
theorem Fr.into (h : Fr F a F' w) (hG : ∀ k, G k → F' k ∨ F k ∨ a.heap.size ≤ k) : Fr F a G w :=
  ⟨h.os, h.tape, h.output, h.size, h.block, fun k hk => (hG k hk).elim (h.new k) id⟩
theorem Fr.alloc (h : Fr F a F' w) (o : Obj) : Fr F a F' (w.alloc o) :=
  ⟨h.os, h.tape, h.output, Nat.le_trans h.size (by simp), fun k hk hF => (Below.heap_alloc w o k (Nat.lt_of_lt_of_le hk h.size)).trans (h.block k hk hF), h.new⟩
theorem Fr.drew (h : Fr F a F' w) : Fr F a F' w.drew := ⟨h.os, h.tape, h.output, h.size, h.block, h.new⟩
theorem Fr.drewN (h : Fr F a F' w) (n : Nat) : Fr F a F' (w.drewN n) := ⟨h.os, h.tape, h.output, h.size, h.block, h.new⟩
theorem Fr.set (h : Fr F a F' w) {p : Addr} (hp : F' p.block ∨ F p.block ∨ a.heap.size ≤ p.block) (u : Value) : Fr F a F' (w.setCell p u) :=
  ⟨h.os, h.tape, h.output, by simpa [World.setCell] using h.size, fun k hk hF => (Below.heap_setCell w p u k (by
    rintro rfl
    rcases hp with hp | hp | hp
    · exact (h.new _ hp).elim hF (by omega)
    · exact hF hp
    · omega)).trans (h.block k hk hF), h.new⟩
theorem Fr.grown (h : Fr F a F' w) {row : Option Nat} (hg : w.grownBy w' row) (hr : ∀ k, row = some k → F' k ∨ F k ∨ a.heap.size ≤ k) : Fr F a F' w' :=
  ⟨hg.os.trans h.os, hg.tape.trans h.tape, hg.output.trans h.output, Nat.le_trans h.size hg.size, fun k hk hF => (hg.block k (Nat.lt_of_lt_of_le hk h.size) fun e => by
    rcases hr k e.symm with h1 | h1 | h1
    · exact (h.new _ h1).elim hF (by omega)
    · exact hF h1
    · omega).trans (h.block k hk hF), h.new⟩
theorem Fr.below {B : Nat} (h : Fr F a F' w) (hF : ∀ k, F k → B ≤ k) (hB : B ≤ a.heap.size) : Below B a w :=
  ⟨h.os, h.tape, h.output, h.size, fun k hk => h.block k (by omega) fun hf => by have := hF k hf; omega⟩
theorem Fr.ge {B : Nat} (h : Fr F a F' w) (hF : ∀ k, F k → B ≤ k) (hB : B ≤ a.heap.size) : ∀ k, F' k → B ≤ k :=
  fun k hk => (h.new k hk).elim (hF k) fun h1 => Nat.le_trans hB h1
theorem Fr.of_below {B : Nat} (h : Below B a w) (hB : a.heap.size ≤ B) (F : Nat → Prop) : Fr F a F w :=
  ⟨h.os, h.tape, h.output, h.size, fun k hk _ => h.block k (by omega), fun _ h => .inl h⟩
/-- What was new anyway has turned. -/
theorem Fr.beside {G' : Nat → Prop} (h : Fr F a F' w) (hf : Fr G w G' w') (hG : ∀ k, G k → a.heap.size ≤ k) : Fr F a F' w' :=
  ⟨hf.os.trans h.os, hf.tape.trans h.tape, hf.output.trans h.output, Nat.le_trans h.size hf.size, fun k hk hF => (hf.block k (Nat.lt_of_lt_of_le hk h.size) fun hg => by have := hG k hg; omega).trans (h.block k hk hF), h.new⟩
/-- What lies apart stays apart. -/
theorem Fr.apart (h : Fr F a F' w) (hG : ∀ k, G k → k < a.heap.size ∧ ¬ F k) : ∀ k, G k → k < w.heap.size ∧ ¬ F' k :=
  fun k hk => ⟨Nat.lt_of_lt_of_le (hG k hk).1 h.size, fun hf => (h.new k hf).elim (hG k hk).2 fun h1 => by have := (hG k hk).1; omega⟩
theorem Fr.keep (h : Fr F a F' w) (hG : ∀ k, G k → k < a.heap.size ∧ ¬ F k) : ∀ k, G k → w.heap[k]? = a.heap[k]? :=
  fun k hk => h.block k (hG k hk).1 (hG k hk).2
theorem Fr.blk (h : Fr F a F' w) {k : Nat} {t : TypeId} {cs : Array Value} (hk : Blk a k t cs) (hF : ¬ F k) : Blk w k t cs := (h.block k hk.lt hF).trans hk
end
section
variable {w w' : World} {B : Nat} {e : TypeId} {size n : Nat} {v : Value} {xs : List Value}
theorem Rowv.drewN (h : Rowv w B e size v n xs) (m : Nat) : Rowv (w.drewN m) B e size v n xs := h
theorem Rowv.alloc (h : Rowv w B e size v n xs) (o : Obj) : Rowv (w.alloc o) B e size v n xs := h.keepLt fun k _ hk _ => Below.heap_alloc w o k hk
theorem Rowv.far (h : Rowv w B e size v n xs) {p : Addr} (hp : v.ownBlock ≠ some p.block) (u : Value) : Rowv (w.setCell p u) B e size v n xs := h.keep fun k hk => Below.heap_setCell w p u k fun e => hp (by rw [hk, e])
theorem Rowv.grown (h : Rowv w B e size v n xs) {row : Option Nat} (hg : w.grownBy w' row) (hne : ∀ k, v.ownBlock = some k → some k ≠ row) : Rowv w' B e size v n xs := h.keepLt fun k _ hk hv => hg.block k hk (hne k hv)
theorem Rowv.ne_ (h : Rowv w B e size v n xs) {t' : TypeId} {k : Nat} {cs : Array Value} (hb : Blk w k t' cs) (hne : t' ≠ e) : v.ownBlock ≠ some k := by
  rcases h.2 with ⟨rfl, _⟩ | ⟨g, off, cap, cur, rfl, h2, h3, _⟩
  · exact fun h => nomatch h
  · intro hk
    obtain rfl : g = k := by simpa [Value.ownBlock] using hk
    unfold Blk at hb
    rw [hb] at h3
    injection h3 with h3
    injection h3 with _ h4
    exact hne h4
end
theorem cell_alloc_ {w : World} {p : Addr} {v : Value} {o : Obj} (h : w.cell? p = some v) : (w.alloc o).cell? p = some v := by
  have hlt : p.block < w.heap.size := Nat.lt_of_not_le fun hh => by
    unfold World.cell? at h
    rw [Array.getElem?_eq_none hh] at h
    cases h
  exact (Below.cell ((Below.refl w.heap.size w).alloc (Nat.le_refl _) o) hlt).trans h
theorem grown_cell {w w' : World} {row : Option Nat} {p : Addr} {v : Value} (hg : w.grownBy w' row) (hne : some p.block ≠ row) (h : w.cell? p = some v) : w'.cell? p = some v := hg.cell h hne
theorem grown_undrew {w w' : World} {row : Option Nat} {n : Nat} (h : (w.drewN n).grownBy w' row) : w.grownBy w' row := ⟨h.os, h.tape, h.output, h.size, h.block⟩
theorem grown_drew_ {w w' : World} {row : Option Nat} {n : Nat} (h : w.grownBy w' row) : w.grownBy (w'.drewN n) row := ⟨h.os, h.tape, h.output, h.size, h.block⟩
theorem drewN_drewN (w : World) (n m : Nat) : (w.drewN n).drewN m = w.drewN (n + m) := by simp [World.drewN, Nat.add_assoc]
theorem below_drewNs {B : Nat} {w w' : World} (h : Below B w w') (n : Nat) : Below B w (w'.drewN n) := ⟨h.os, h.tape, h.output, h.size, h.block⟩
theorem drewN_heap (w : World) (n : Nat) : (w.drewN n).heap = w.heap := rfl
end Go.Proofs.Yteoebfjhadmnbaa
/- Floats of 64 bits but for which NaN: their classes; what the four operations, the comparisons and Abs answer on classes; their runs. -/
namespace Go.Proofs.Yteoebfjhadmnbaa
open Go.RowKit Ieee
set_option linter.unusedVariables false
set_option linter.unusedSimpArgs false

/-- a float's class: its bits, or none for every NaN -/
def cl (x : Nat) : Option Nat := if isnan x then none else some x
def fop (op : BinOp) : Option Nat → Option Nat → Option Nat
  | some x, some y => floatBits op .f64 x y
  | _, _ => none
theorem isnan_read {x : Nat} (h : isnan x = true) : ∃ s t, double.read x = .nan s t := by
  unfold isnan at h
  exact ⟨_, _, read_nan x (by simpa using h)⟩
theorem fb_nan_l {op : BinOp} {x y : Nat} (h : isnan x = true) : floatBits op .f64 x y = none := by
  obtain ⟨s, t, hr⟩ := isnan_read h
  unfold floatBits
  cases op <;> simp [FloatKind.format, Format.add, Format.sub, Format.mul, Format.div, hr, Datum.sum, Datum.product, Datum.quotient]
theorem fb_nan_r {op : BinOp} {x y : Nat} (h : isnan y = true) : floatBits op .f64 x y = none := by
  obtain ⟨s, t, hr⟩ := isnan_read h
  unfold floatBits
  cases op <;> simp only [FloatKind.format, Format.add, Format.sub, Format.mul, Format.div, hr, Datum.opposite] <;> cases double.read x <;> simp [Datum.sum, Datum.product, Datum.quotient]
theorem isnan_word (s : Bool) (r : Nat) (h : r ≤ 9218868437227405312) : isnan (double.word s r) = false := by
  unfold isnan
  rw [show double.word s r = if s then 9223372036854775808 + r else r from rfl]
  cases s <;> simp <;> omega
theorem isnan_near (s : Bool) (m : Nat) (p : Int) : isnan (double.nearest s m p) = false := by
  unfold Format.nearest
  split
  · exact isnan_word _ _ (by omega)
  · exact isnan_word _ _ (Nat.min_le_right _ _)
theorem isnan_write {d : Datum} (h : d.isNaN = false) : isnan (double.write d) = false := by
  cases d with
  | number s m p => exact isnan_near s m p
  | infinity s => exact isnan_word _ _ (Nat.le_refl _)
  | nan s t => cases h
theorem sum_num {a b d : Datum} (h : a.sum b = some d) : d.isNaN = false := by
  cases a <;> cases b <;> simp only [Datum.sum] at h
  case number.number => cases h; rfl
  case number.infinity => cases h; rfl
  case infinity.number => cases h; rfl
  case infinity.infinity => split at h <;> cases h; rfl
  all_goals cases h
theorem product_num {a b d : Datum} (h : a.product b = some d) : d.isNaN = false := by
  cases a <;> cases b <;> simp only [Datum.product] at h
  case number.number => cases h; rfl
  case number.infinity => split at h <;> cases h; rfl
  case infinity.number => split at h <;> cases h; rfl
  case infinity.infinity => cases h; rfl
  all_goals cases h
theorem quotient_num {n : Nat} {a b d : Datum} (h : a.quotient n b = some d) : d.isNaN = false := by
  cases a <;> cases b <;> simp only [Datum.quotient] at h
  case number.number =>
    split at h
    · split at h <;> cases h; rfl
    · cases h; rfl
  case number.infinity => cases h; rfl
  case infinity.number => cases h; rfl
  all_goals cases h
theorem fb_num {op : BinOp} {x y r : Nat} (h : floatBits op .f64 x y = some r) : isnan r = false := by
  unfold floatBits at h
  cases op <;> simp only at h <;> first | (cases h; done) | skip
  all_goals
    simp only [FloatKind.format, Format.add, Format.sub, Format.mul, Format.div, Option.map_eq_some_iff] at h
    obtain ⟨d, h1, rfl⟩ := h
    first | exact isnan_write (sum_num h1) | exact isnan_write (product_num h1) | exact isnan_write (quotient_num h1)
theorem fb_lt {op : BinOp} {x y r : Nat} (h : floatBits op .f64 x y = some r) : r < 18446744073709551616 := by
  have := floatBits_wf h
  simpa [Lit.wf, FloatKind.format, double, Format.width] using this

/-- what an operation answers in a world: its bits, or the NaN that is drawn -/
def fres (op : BinOp) (x y : Nat) (W : World) : Nat := match floatBits op .f64 x y with
  | some r => r
  | none => (Question.nanBits .f64 x y).cut (W.tape W.drawn (.nanBits .f64 x y))
def fdr (op : BinOp) (x y : Nat) : Nat := match floatBits op .f64 x y with
  | some _ => 0
  | none => 1
theorem cut_nan (x y t : Nat) : isnan ((Question.nanBits .f64 x y).cut t) = true ∧ (Question.nanBits .f64 x y).cut t < 18446744073709551616 := by
  have e : (Question.nanBits .f64 x y).cut t = (t % 2) * 9223372036854775808 + 9218868437227405312 + 1 + (t / 2) % 4503599627370495 := rfl
  have h2 : t / 2 % 4503599627370495 < 4503599627370495 := Nat.mod_lt _ (by decide)
  rw [e]
  unfold isnan
  generalize t / 2 % 4503599627370495 = u at *
  rcases Nat.mod_two_eq_zero_or_one t with h | h <;> rw [h] <;> refine ⟨decide_eq_true ?_, ?_⟩ <;> omega
theorem cl_fres (op : BinOp) (x y : Nat) (W : World) : cl (fres op x y W) = fop op (cl x) (cl y) := by
  have hd : ∀ z, cl z = if isnan z then none else some z := fun _ => rfl
  unfold fres
  cases h : floatBits op .f64 x y with
  | some r =>
    have hx : isnan x = false := by
      cases hx : isnan x with
      | false => rfl
      | true => rw [fb_nan_l hx] at h; cases h
    have hy : isnan y = false := by
      cases hy : isnan y with
      | false => rfl
      | true => rw [fb_nan_r hy] at h; cases h
    simp [hd, fb_num h, hx, hy, fop, h]
  | none =>
    simp only [hd, (cut_nan x y _).1, if_true]
    cases hx : isnan x <;> cases hy : isnan y <;> simp [fop, h]
theorem fres_lt (op : BinOp) (x y : Nat) (W : World) : fres op x y W < 18446744073709551616 := by
  unfold fres
  cases h : floatBits op .f64 x y with
  | some r => exact fb_lt h
  | none => exact (cut_nan x y _).2
def isArith : BinOp → Bool
  | .add | .sub | .mul | .quo => true
  | _ => false
theorem run_f {op : BinOp} (ho : isArith op = true) (x y : Nat) (W : World) : (binOp op 36 (.float .f64 x) (.float .f64 y)).run Try.prog W = .ok (.float .f64 (fres op x y W)) (W.drewN (fdr op x y)) := by
  unfold fres fdr
  cases h : floatBits op .f64 x y with
  | some r => exact run_float_arith (P := Try.prog) W op 36 .f64 x y r h
  | none =>
    unfold floatBits at h
    cases op <;> first | (cases ho; done) | skip
    all_goals
      simp only at h
      simp [binOp, Op.floatArith, h, Question.forced]
      rfl
@[go_sem] theorem run_store_float {P : Program} {w : World} {a : Addr} {m : Mode} (k : FloatKind) (b : Nat) : (store a (.float k b) m).run P w = stored P w a (.float k b) m := run_store P w a _ m rfl
@[go_sem high] theorem run_fadd (x y : Nat) (W : World) : (binOp .add 36 (.float .f64 x) (.float .f64 y)).run Try.prog W = .ok (.float .f64 (fres .add x y W)) (W.drewN (fdr .add x y)) := run_f rfl x y W
@[go_sem high] theorem run_fsub (x y : Nat) (W : World) : (binOp .sub 36 (.float .f64 x) (.float .f64 y)).run Try.prog W = .ok (.float .f64 (fres .sub x y W)) (W.drewN (fdr .sub x y)) := run_f rfl x y W
@[go_sem high] theorem run_fmul (x y : Nat) (W : World) : (binOp .mul 36 (.float .f64 x) (.float .f64 y)).run Try.prog W = .ok (.float .f64 (fres .mul x y W)) (W.drewN (fdr .mul x y)) := run_f rfl x y W
@[go_sem high] theorem run_fquo (x y : Nat) (W : World) : (binOp .quo 36 (.float .f64 x) (.float .f64 y)).run Try.prog W = .ok (.float .f64 (fres .quo x y W)) (W.drewN (fdr .quo x y)) := run_f rfl x y W
/-- a < b, on classes -/
def cLt : Option Nat → Option Nat → Bool
  | some x, some y => decide (sr x < sr y)
  | _, _ => false
def cEq : Option Nat → Option Nat → Bool
  | some x, some y => decide (sr x = sr y)
  | _, _ => false
theorem fLt_cl (a b : Nat) : fLt a b = cLt (cl a) (cl b) := by
  unfold fLt cl
  cases isnan a <;> cases isnan b <;> simp [cLt]
theorem fEq_cl (a b : Nat) : fEq a b = cEq (cl a) (cl b) := by
  unfold fEq cl
  cases isnan a <;> cases isnan b <;> simp [cEq]
def absN (x : Nat) : Nat := x % 9223372036854775808
theorem isnan_abs (x : Nat) : isnan (absN x) = isnan x := by
  unfold isnan absN
  rw [Nat.mod_mod]
theorem cl_abs (x : Nat) : cl (absN x) = (cl x).map absN := by
  unfold cl
  rw [isnan_abs]
  cases isnan x <;> simp
theorem isnan_cl (x : Nat) : isnan x = (cl x).isNone := by
  unfold cl
  cases isnan x <;> simp
end Go.Proofs.Yteoebfjhadmnbaa
