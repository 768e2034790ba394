/- Plain facts on doubles: what can be written just so is; whole numbers; cutting. -/
import Derived.Test.YtconppelbjjkjaaWordA
namespace Go.Proofs.Ytconppelbjjkjaa
open Ieee

theorem cut_none (way : Toward) (neg : Bool) (n : Nat) : way.cut neg n 0 = n := by
  unfold Toward.cut
  simp only [Nat.zero_min, Nat.shiftLeft_zero, Nat.div_one, Nat.mod_one, Nat.mul_zero]
  cases way <;> simp

theorem cut_exact (way : Toward) (neg : Bool) (k d : Nat) (h : k ≠ 0) : way.cut neg (k * 2 ^ d) d = k := by
  have hp : 0 < 2 ^ d := Nat.two_pow_pos d
  have hl : d ≤ (k * 2 ^ d).log2 := by
    have h1 : k * 2 ^ d ≠ 0 := Nat.mul_ne_zero h (by omega)
    rw [Nat.le_log2 h1]
    exact Nat.le_mul_of_pos_left _ (by omega)
  unfold Toward.cut
  dsimp only
  rw [Nat.min_eq_left (by omega), Nat.shiftLeft_eq, Nat.one_mul, Nat.mul_div_cancel _ hp, Nat.mul_mod_left]
  have : ¬ 2 ^ d = 0 := by omega
  cases way <;> simp

theorem log2_shift (m p : Nat) (h : m ≠ 0) : (m * 2 ^ p).log2 = m.log2 + p := by
  refine (Nat.log2_eq_iff (Nat.mul_ne_zero h (by have := Nat.two_pow_pos p; omega))).2 ⟨?_, ?_⟩
  · rw [Nat.pow_add]; exact Nat.mul_le_mul_right _ (Nat.log2_self_le h)
  · rw [show m.log2 + p + 1 = (m.log2 + 1) + p by omega, Nat.pow_add]
    exact Nat.mul_lt_mul_of_pos_right Nat.lt_log2_self (Nat.two_pow_pos p)

theorem mag_range (r : Nat) (h : 4503599627370496 ≤ r) : magOf r = 4503599627370496 + r % 4503599627370496 ∧ (magOf r).log2 = 52 ∧ expOf r = r / 4503599627370496 - 1 := by
  have e : magOf r = 4503599627370496 + r % 4503599627370496 := by unfold magOf; rw [if_neg (by omega)]
  refine ⟨e, ?_, by unfold expOf; rw [if_neg (by omega)]⟩
  rw [e]
  exact (Nat.log2_eq_iff (by omega)).2 ⟨by omega, by omega⟩

/-- WHAT CAN BE WRITTEN JUST SO IS: a number that is a rung's own is written as that rung. -/
theorem nearest_exact (neg : Bool) (mag : Nat) (place : Int) (p r : Nat) (hp : place = -1074 + (p : Int)) (hr : r < 9218868437227405312) (hv : mag * 2 ^ p = mg r) :
    double.nearest neg mag place = double.word neg r := by
  by_cases hm : mag = 0
  · subst hm
    rw [Nat.zero_mul] at hv
    have : r = 0 := mg_inj (by rw [← hv]; rfl)
    subst this
    unfold Format.nearest; rw [if_pos rfl]
  · unfold Format.nearest
    rw [if_neg hm]
    have hfb : (double.fractionBits : Int) = 52 := rfl
    have hlp : double.leastPlace = -1074 := rfl
    have hbi : double.binade = 4503599627370496 := rfl
    have hin : double.infRung = 9218868437227405312 := rfl
    simp only [hfb, hlp, hbi, hin]
    by_cases hs : 4503599627370496 ≤ r
    · obtain ⟨m1, m2, m3⟩ := mag_range r hs
      have hmr : magOf r ≠ 0 := by omega
      have hv' : mag * 2 ^ p = magOf r * 2 ^ expOf r := by rw [hv, mg_eq]
      have hl : mag.log2 + p = 52 + expOf r := by
        rw [← log2_shift mag p hm, hv', log2_shift _ _ hmr, m2]
      have hlast : max (place + (mag.log2 : Int) - 52) (-1074) = -1074 + (expOf r : Int) := by omega
      rw [hlast]
      have hk : Toward.even.cut neg (mag <<< (place - (-1074 + (expOf r : Int))).toNat) ((-1074 + (expOf r : Int)) - place).toNat = magOf r := by
        by_cases hpe : expOf r ≤ p
        · have e1 : (place - (-1074 + (expOf r : Int))).toNat = p - expOf r := by omega
          have e2 : ((-1074 + (expOf r : Int)) - place).toNat = 0 := by omega
          rw [e1, e2, cut_none, Nat.shiftLeft_eq]
          have : mag * 2 ^ (p - expOf r) * 2 ^ expOf r = magOf r * 2 ^ expOf r := by
            rw [Nat.mul_assoc, ← Nat.pow_add, Nat.sub_add_cancel hpe, hv']
          exact Nat.eq_of_mul_eq_mul_right (Nat.two_pow_pos _) this
        · have e1 : (place - (-1074 + (expOf r : Int))).toNat = 0 := by omega
          have e2 : ((-1074 + (expOf r : Int)) - place).toNat = expOf r - p := by omega
          rw [e1, e2, Nat.shiftLeft_zero]
          have : mag = magOf r * 2 ^ (expOf r - p) := by
            have h2 : mag * 2 ^ p = magOf r * 2 ^ (expOf r - p) * 2 ^ p := by
              rw [Nat.mul_assoc, ← Nat.pow_add, Nat.sub_add_cancel (by omega), hv']
            exact Nat.eq_of_mul_eq_mul_right (Nat.two_pow_pos _) h2
          rw [this, cut_exact _ _ _ _ hmr]
      rw [hk]
      have e3 : (-1074 + (expOf r : Int) - (-1074)).toNat = expOf r := by omega
      rw [e3, m1, m3]
      have e4 : (r / 4503599627370496 - 1) * 4503599627370496 + (4503599627370496 + r % 4503599627370496) = r := by omega
      rw [e4, Nat.min_eq_left (by omega)]
    · have hv' : mag * 2 ^ p = r := by rw [hv]; unfold mg; rw [if_pos (by omega)]
      have hl : mag.log2 + p < 52 := by
        have h1 := log2_shift mag p hm
        rw [hv'] at h1
        have hr0 : r ≠ 0 := by rw [← hv']; exact Nat.mul_ne_zero hm (by have := Nat.two_pow_pos p; omega)
        have := (Nat.log2_lt hr0).2 (show r < 2 ^ 52 by omega)
        omega
      have hlast : max (place + (mag.log2 : Int) - 52) (-1074) = -1074 := by omega
      rw [hlast]
      have e1 : (place - (-1074)).toNat = p := by omega
      have e2 : (-1074 - place).toNat = 0 := by omega
      have e3 : ((-1074 : Int) - (-1074)).toNat = 0 := by omega
      rw [e1, e2, e3, cut_none, Nat.shiftLeft_eq, hv', Nat.zero_mul, Nat.zero_add, Nat.min_eq_left (by omega)]

theorem mg_rung (e k : Nat) (h1 : 4503599627370496 ≤ k) (h2 : k ≤ 9007199254740992) : mg (e * 4503599627370496 + k) = k * 2 ^ e := by
  unfold mg
  rw [if_neg (by omega)]
  by_cases h : k = 9007199254740992
  · subst h
    have e1 : (e * 4503599627370496 + 9007199254740992) % 4503599627370496 = 0 := by omega
    have e2 : (e * 4503599627370496 + 9007199254740992) / 4503599627370496 - 1 = e + 1 := by omega
    rw [e1, e2, Nat.pow_succ]
    have hp : 0 < 2 ^ e := Nat.two_pow_pos _
    generalize 2 ^ e = p at *
    omega
  · have e1 : (e * 4503599627370496 + k) % 4503599627370496 = k - 4503599627370496 := by omega
    have e2 : (e * 4503599627370496 + k) / 4503599627370496 - 1 = e := by omega
    rw [e1, e2, show 4503599627370496 + (k - 4503599627370496) = k by omega]

/-- EVERY NUMBER OF AT MOST 53 DIGITS AT A PLACE IN REACH HAS ITS RUNG. -/
theorem ex_rung (m p : Nat) (hm : m ≤ 9007199254740992) (hp : p ≤ 2000) : ∃ r, r < 9218868437227405312 ∧ mg r = m * 2 ^ p := by
  by_cases h0 : m = 0
  · subst h0; exact ⟨0, by decide, by rw [Nat.zero_mul]; rfl⟩
  · by_cases hs : m * 2 ^ p < 4503599627370496
    · exact ⟨m * 2 ^ p, by omega, by unfold mg; rw [if_pos hs]⟩
    · by_cases ht : m = 9007199254740992
      · subst ht
        exact ⟨p * 4503599627370496 + 9007199254740992, by omega, mg_rung p _ (by omega) (by omega)⟩
      · have hL : m.log2 ≤ 52 := by have := (Nat.log2_lt h0).2 (show m < 2 ^ 53 by omega); omega
        have hl := log2_shift m p h0
        have hp52 : 52 ≤ m.log2 + p := by
          rw [← hl]
          have hne : m * 2 ^ p ≠ 0 := by omega
          exact (Nat.le_log2 hne).2 (by omega)
        have lo := Nat.log2_self_le h0
        have hi : m < 2 ^ (m.log2 + 1) := Nat.lt_log2_self
        have k1 : m * 2 ^ (52 - m.log2) ≥ 4503599627370496 := by
          have : 2 ^ m.log2 * 2 ^ (52 - m.log2) = 4503599627370496 := by rw [← Nat.pow_add, show m.log2 + (52 - m.log2) = 52 by omega]
          rw [← this]; exact Nat.mul_le_mul_right _ lo
        have k2 : m * 2 ^ (52 - m.log2) ≤ 9007199254740992 := by
          have : 2 ^ (m.log2 + 1) * 2 ^ (52 - m.log2) = 9007199254740992 := by rw [← Nat.pow_add, show m.log2 + 1 + (52 - m.log2) = 53 by omega]
          rw [← this]; exact Nat.mul_le_mul_right _ (by omega)
        refine ⟨(m.log2 + p - 52) * 4503599627370496 + m * 2 ^ (52 - m.log2), by omega, ?_⟩
        rw [mg_rung _ _ k1 k2, Nat.mul_assoc, ← Nat.pow_add, show 52 - m.log2 + (m.log2 + p - 52) = p by omega]

/-- the value of a finite double, in units of the least place -/
def fv (b : Nat) : Int := sg (b / 9223372036854775808 % 2 == 1) (mg (b % 9223372036854775808))
def fin (b : Nat) : Bool := decide (b % 9223372036854775808 < 9218868437227405312)

theorem word_eq (s : Bool) (r : Nat) : double.word s r = if s then 9223372036854775808 + r else r := rfl
theorem word_parts (s : Bool) (r : Nat) (h : r < 9223372036854775808) : double.word s r % 9223372036854775808 = r ∧ (double.word s r / 9223372036854775808 % 2 == 1) = s ∧ double.word s r < 18446744073709551616 := by
  rw [word_eq]
  cases s <;> simp <;> omega
theorem word_back (b : Nat) (h : b < 18446744073709551616) : double.word (b / 9223372036854775808 % 2 == 1) (b % 9223372036854775808) = b := by
  rw [word_eq]
  by_cases c : b / 9223372036854775808 % 2 = 1
  · simp [c]; omega
  · simp [c]; omega
theorem fv_word (s : Bool) (r : Nat) (h : r < 9218868437227405312) : fv (double.word s r) = sg s (mg r) ∧ fin (double.word s r) = true ∧ double.word s r < 18446744073709551616 := by
  obtain ⟨h1, h2, h3⟩ := word_parts s r (by omega)
  refine ⟨?_, ?_, h3⟩
  · unfold fv; rw [h1, h2]
  · unfold fin; rw [h1]; simpa using h

theorem cmp_lt (a b c d : Int) (h : compare a b = compare c d) : a < b ↔ c < d := by
  rw [cmp_int, cmp_int] at h
  constructor
  · intro k; rw [if_pos k] at h
    by_cases k2 : c < d
    · exact k2
    · rw [if_neg k2] at h; split at h <;> cases h
  · intro k; rw [if_pos k] at h
    by_cases k2 : a < b
    · exact k2
    · rw [if_neg k2] at h; split at h <;> cases h
theorem cmp_eq (a b c d : Int) (h : compare a b = compare c d) : a = b ↔ c = d := by
  rw [cmp_int, cmp_int] at h
  by_cases k : a < b
  · rw [if_pos k] at h
    have : c < d := by
      by_cases k2 : c < d
      · exact k2
      · rw [if_neg k2] at h; split at h <;> cases h
    omega
  · rw [if_neg k] at h
    by_cases k2 : c < d
    · rw [if_pos k2] at h; split at h <;> cases h
    · rw [if_neg k2] at h
      by_cases e : a = b <;> by_cases f : c = d <;> simp [e, f] at h ⊢
theorem sr_fv_lt (a b : Nat) : sr a < sr b ↔ fv a < fv b := by
  rw [sr_eq, sr_eq]; exact (cmp_lt _ _ _ _ (sg_cmp _ _ _ _)).symm
theorem sr_fv_eq (a b : Nat) : sr a = sr b ↔ fv a = fv b := by
  rw [sr_eq, sr_eq]; exact (cmp_eq _ _ _ _ (sg_cmp _ _ _ _)).symm
theorem fin_nan (b : Nat) (h : fin b = true) : isnan b = false := by
  simp [fin] at h; simp [isnan]; omega
theorem read_fin (b : Nat) (h : fin b = true) : double.read b = .number (b / 9223372036854775808 % 2 == 1) (magOf (b % 9223372036854775808)) (-1074 + (expOf (b % 9223372036854775808) : Nat)) :=
  read_num b (by simpa [fin] using h)

/-- one, in units of the least place -/
def place1 : Nat := 1074
def unit1 : Nat := 2 ^ place1
theorem place1_eq : place1 = 1074 := rfl
theorem unit1_pos : 0 < unit1 := Nat.two_pow_pos _

/-- A WHOLE NUMBER OF AT MOST 53 DIGITS IS WRITTEN JUST SO. -/
theorem write_int (s : Bool) (c : Nat) (hc : c ≤ 9007199254740992) : ∃ r, r < 9218868437227405312 ∧ mg r = c * unit1 ∧ double.write (.number s c 0) = double.word s r := by
  have hp := place1_eq
  obtain ⟨r, h1, h2⟩ := ex_rung c place1 hc (by omega)
  exact ⟨r, h1, h2, nearest_exact s c 0 place1 r (by omega) h1 h2.symm⟩

theorem magOf_lt (r : Nat) : magOf r < 9007199254740992 := by
  unfold magOf; split <;> omega

/-- cut by two and more: what is left has at most 52 digits and one -/
theorem cut_small (way : Toward) (s : Bool) (m d : Nat) (hm : m < 9007199254740992) (hd : d ≠ 0) : way.cut s m d ≤ 4503599627370496 := by
  unfold Toward.cut
  dsimp only
  have hg : 2 ≤ 1 <<< min d (m.log2 + 2) := by
    rw [Nat.shiftLeft_eq, Nat.one_mul]
    calc 2 = 2 ^ 1 := rfl
      _ ≤ _ := Nat.pow_le_pow_right (by omega) (by omega)
  have hl : m / (1 <<< min d (m.log2 + 2)) ≤ m / 2 := Nat.div_le_div_left hg (by omega)
  have hb : ∀ b : Bool, b.toNat ≤ 1 := fun b => by cases b <;> decide
  refine Nat.le_trans (Nat.add_le_add hl (hb _)) ?_
  omega

/-- the whole number that a finite double is cut to, towards nought -/
def truncN (b : Nat) : Nat := Toward.zero.cut (b / 9223372036854775808 % 2 == 1) (magOf (b % 9223372036854775808) <<< (-1074 + (expOf (b % 9223372036854775808) : Int)).toNat) (-(-1074 + (expOf (b % 9223372036854775808) : Int))).toNat

theorem cut_cases (way : Toward) (s : Bool) (r : Nat) :
    (∃ k, mg r = k * unit1 ∧ way.cut s (magOf r <<< (-1074 + (expOf r : Int)).toNat) (-(-1074 + (expOf r : Int))).toNat = k) ∨
    ((¬ unit1 ∣ mg r) ∧ way.cut s (magOf r <<< (-1074 + (expOf r : Int)).toNat) (-(-1074 + (expOf r : Int))).toNat ≤ 4503599627370496) := by
  have hp := place1_eq
  by_cases he : place1 ≤ expOf r
  · left
    have e1 : (-1074 + (expOf r : Int)).toNat = expOf r - place1 := by omega
    have e2 : (-(-1074 + (expOf r : Int))).toNat = 0 := by omega
    rw [e1, e2, cut_none, Nat.shiftLeft_eq]
    refine ⟨_, ?_, rfl⟩
    rw [mg_eq, Nat.mul_assoc, unit1, ← Nat.pow_add, Nat.sub_add_cancel he]
  · have e1 : (-1074 + (expOf r : Int)).toNat = 0 := by omega
    have e2 : (-(-1074 + (expOf r : Int))).toNat = place1 - expOf r := by omega
    rw [e1, e2, Nat.shiftLeft_zero]
    by_cases hd : unit1 ∣ mg r
    · left
      obtain ⟨k, hk⟩ := hd
      have hk' : magOf r = k * 2 ^ (place1 - expOf r) := by
        rw [mg_eq] at hk
        have : magOf r * 2 ^ expOf r = k * 2 ^ (place1 - expOf r) * 2 ^ expOf r := by
          rw [hk, Nat.mul_assoc, ← Nat.pow_add, Nat.sub_add_cancel (by omega), Nat.mul_comm, unit1]
        exact Nat.eq_of_mul_eq_mul_right (Nat.two_pow_pos _) this
      refine ⟨k, by rw [hk, Nat.mul_comm], ?_⟩
      rw [hk']
      by_cases h0 : k = 0
      · subst h0
        rw [Nat.zero_mul]
        unfold Toward.cut
        dsimp only
        rw [Nat.zero_div, Nat.zero_mod]
        cases way <;> simp
      · exact cut_exact _ _ _ _ h0
    · exact .inr ⟨hd, cut_small _ _ _ _ (magOf_lt r) (by omega)⟩

/-- is a finite double a whole number? -/
def isWhole (b : Nat) : Bool := decide (mg (b % 9223372036854775808) % unit1 = 0)

theorem sg_mul (s : Bool) (a u : Nat) : sg s (a * u) = sg s a * u := by
  unfold sg; cases s
  · simp
  · simp [Int.neg_mul]

/-- A DOUBLE MADE WHOLE (down, to nought ..) IS ITSELF JUST IF IT IS WHOLE. -/
theorem integral_same (way : Toward) (b : Nat) (hb : b < 18446744073709551616) (hf : fin b = true) :
    (isWhole b = true ∧ double.write ((double.read b).integral way) = b) ∨
    (isWhole b = false ∧ fin (double.write ((double.read b).integral way)) = true ∧ fv (double.write ((double.read b).integral way)) ≠ fv b) := by
  rw [read_fin b hf]
  have hr : b % 9223372036854775808 < 9218868437227405312 := by simpa [fin] using hf
  simp only [Datum.integral]
  rcases cut_cases way (b / 9223372036854775808 % 2 == 1) (b % 9223372036854775808) with ⟨k, h1, h2⟩ | ⟨h1, h2⟩
  · left
    refine ⟨by unfold isWhole; rw [h1]; simp, ?_⟩
    rw [h2]
    have hp := place1_eq
    have := nearest_exact (b / 9223372036854775808 % 2 == 1) k 0 place1 (b % 9223372036854775808) (by omega) hr h1.symm
    exact this.trans (word_back b hb)
  · right
    have hw : isWhole b = false := by
      unfold isWhole; simp; intro h; exact h1 (Nat.dvd_of_mod_eq_zero h)
    refine ⟨hw, ?_⟩
    obtain ⟨r, r1, r2, r3⟩ := write_int (b / 9223372036854775808 % 2 == 1) _ (Nat.le_trans h2 (by omega))
    rw [r3]
    obtain ⟨q1, q2, q3⟩ := fv_word (b / 9223372036854775808 % 2 == 1) r r1
    refine ⟨q2, ?_⟩
    rw [q1, r2]
    unfold fv
    intro h
    apply h1
    rw [sg_mul] at h
    have : mg (b % 9223372036854775808) = Toward.cut way (b / 9223372036854775808 % 2 == 1) (magOf (b % 9223372036854775808) <<< (-1074 + (expOf (b % 9223372036854775808) : Int)).toNat) (-(-1074 + (expOf (b % 9223372036854775808) : Int))).toNat * unit1 := by
      rw [← sg_mul] at h
      unfold sg at h
      split at h <;> omega
    rw [this]
    exact Nat.dvd_mul_left _ _

/-- what a finite double comes to as a whole number, cut towards nought -/
def truncI (b : Nat) : Int := sg (b / 9223372036854775808 % 2 == 1) (truncN b)

theorem toInt_fin (b : Nat) (hf : fin b = true) : (double.read b).toInt .zero = some (truncI b) := by
  rw [read_fin b hf]
  simp only [Datum.toInt, Datum.integral, signed, Nat.shiftLeft_zero]
  rfl

theorem trunc_whole (b : Nat) (hw : isWhole b = true) : fv b = truncI b * unit1 := by
  unfold fv truncI truncN
  rw [← sg_mul]
  rcases cut_cases .zero (b / 9223372036854775808 % 2 == 1) (b % 9223372036854775808) with ⟨k, h1, h2⟩ | ⟨h1, h2⟩
  · rw [h2, h1]
  · exfalso; apply h1; exact Nat.dvd_of_mod_eq_zero (by simpa [isWhole] using hw)

/-- cut towards nought: no further from nought -/
theorem cut_zero_le (s : Bool) (m d : Nat) : Toward.zero.cut s m d * 2 ^ d ≤ m := by
  unfold Toward.cut
  dsimp only
  rw [Nat.shiftLeft_eq, Nat.one_mul]
  show (m / 2 ^ min d (m.log2 + 2) + false.toNat) * 2 ^ d ≤ m
  have : (false : Bool).toNat = 0 := rfl
  rw [this, Nat.add_zero]
  by_cases h : d ≤ m.log2 + 2
  · rw [Nat.min_eq_left h]; exact Nat.div_mul_le_self _ _
  · rw [Nat.min_eq_right (by omega)]
    have hlt : m < 2 ^ (m.log2 + 2) := Nat.lt_trans Nat.lt_log2_self (Nat.pow_lt_pow_right (by omega) (by omega))
    rw [Nat.div_eq_of_lt hlt, Nat.zero_mul]; omega

theorem trunc_le (b : Nat) : truncN b * unit1 ≤ mg (b % 9223372036854775808) := by
  have hp := place1_eq
  unfold truncN
  generalize b % 9223372036854775808 = r
  by_cases he : place1 ≤ expOf r
  · have e1 : (-1074 + (expOf r : Int)).toNat = expOf r - place1 := by omega
    have e2 : (-(-1074 + (expOf r : Int))).toNat = 0 := by omega
    rw [e1, e2, cut_none, Nat.shiftLeft_eq, mg_eq, Nat.mul_assoc, unit1, ← Nat.pow_add, Nat.sub_add_cancel he]
    exact Nat.le_refl _
  · have e1 : (-1074 + (expOf r : Int)).toNat = 0 := by omega
    have e2 : (-(-1074 + (expOf r : Int))).toNat = place1 - expOf r := by omega
    rw [e1, e2, Nat.shiftLeft_zero, mg_eq, unit1]
    have h := cut_zero_le (b / 9223372036854775808 % 2 == 1) (magOf r) (place1 - expOf r)
    calc _ = (Toward.zero.cut (b / 9223372036854775808 % 2 == 1) (magOf r) (place1 - expOf r) * 2 ^ (place1 - expOf r)) * 2 ^ expOf r := by
            rw [Nat.mul_assoc, ← Nat.pow_add, Nat.sub_add_cancel (by omega)]
      _ ≤ _ := Nat.mul_le_mul_right _ h

theorem mg_two63 : mg 4890909195324358656 = 9223372036854775808 * unit1 := by
  have hp := place1_eq
  rw [mg_eq]
  have e1 : magOf 4890909195324358656 = 2 ^ 52 := by decide
  have e2 : expOf 4890909195324358656 = 11 + place1 := by decide
  rw [e1, e2, Nat.pow_add, ← Nat.mul_assoc, ← Nat.pow_add, unit1]
theorem fv_hi : fv 4890909195324358656 = 9223372036854775808 * (unit1 : Int) := by
  have : fv 4890909195324358656 = (mg 4890909195324358656 : Nat) := by
    unfold fv sg; simp
  rw [this, mg_two63]; simp
theorem fv_lo : fv 14114281232179134464 = -9223372036854775808 * (unit1 : Int) := by
  have : fv 14114281232179134464 = -((mg 4890909195324358656 : Nat) : Int) := by
    unfold fv sg; simp
  rw [this, mg_two63]; simp [Int.neg_mul]


theorem fLt_fin (a b : Nat) (ha : isnan a = false) (hb : isnan b = false) : fLt a b = decide (fv a < fv b) := by
  unfold fLt; rw [ha, hb]; simp only [Bool.not_false, Bool.true_and, decide_eq_decide]; exact sr_fv_lt a b
theorem fEq_fin (a b : Nat) (ha : isnan a = false) (hb : isnan b = false) : fEq a b = decide (fv a = fv b) := by
  unfold fEq; rw [ha, hb]; simp only [Bool.not_false, Bool.true_and, decide_eq_decide]; exact sr_fv_eq a b

theorem mul_lt_u (a b : Int) : a * (unit1 : Int) < b * (unit1 : Int) ↔ a < b := Int.mul_lt_mul_right (by have := unit1_pos; omega)
theorem mul_eq_u (a b : Int) : a * (unit1 : Int) = b * (unit1 : Int) ↔ a = b := Int.mul_eq_mul_right_iff (by have := unit1_pos; omega)

def wholeIs (b : Nat) : Bool := fin b && isWhole b && decide (-9223372036854775808 ≤ truncI b) && decide (truncI b < 9223372036854775808)
def wholeOf (b : Nat) : Int := if wholeIs b then truncI b else 0

theorem lt_lo (b : Nat) (hf : fin b = true) (hw : isWhole b = true) : fLt b 14114281232179134464 = decide (truncI b < -9223372036854775808) := by
  rw [fLt_fin _ _ (fin_nan b hf) (by decide), fv_lo, trunc_whole b hw, decide_eq_decide]
  exact mul_lt_u _ _
theorem ge_hi (b : Nat) (hf : fin b = true) (hw : isWhole b = true) : (fLt 4890909195324358656 b || fEq b 4890909195324358656) = decide (9223372036854775808 ≤ truncI b) := by
  rw [fLt_fin _ _ (by decide) (fin_nan b hf), fEq_fin _ _ (fin_nan b hf) (by decide), fv_hi, trunc_whole b hw, Bool.eq_iff_iff]
  simp only [Bool.or_eq_true, decide_eq_true_eq]
  rw [mul_lt_u, mul_eq_u]; omega

/-- of any finite double in reach, whole or not -/
theorem trunc_range (b : Nat) (hf : fin b = true) (h1 : fLt b 14114281232179134464 = false) (h2 : (fLt 4890909195324358656 b || fEq b 4890909195324358656) = false) :
    -9223372036854775808 ≤ truncI b ∧ truncI b < 9223372036854775808 := by
  rw [fLt_fin _ _ (fin_nan b hf) (by decide), fv_lo] at h1
  rw [fLt_fin _ _ (by decide) (fin_nan b hf), fEq_fin _ _ (fin_nan b hf) (by decide), fv_hi] at h2
  simp only [decide_eq_false_iff_not, Bool.or_eq_false_iff] at h1 h2
  obtain ⟨h2, h3⟩ := h2
  have hu := unit1_pos
  have ht := trunc_le b
  have ht' : (truncN b : Int) * unit1 ≤ (mg (b % 9223372036854775808) : Int) := by
    have : ((truncN b * unit1 : Nat) : Int) ≤ (mg (b % 9223372036854775808) : Int) := by omega
    simpa using this
  unfold fv at h1 h2 h3
  unfold truncI
  unfold sg at *
  by_cases c : (b / 9223372036854775808 % 2 == 1) = true
  · simp only [c, if_true] at *
    have : (truncN b : Int) * unit1 ≤ 9223372036854775808 * unit1 := by
      rw [Int.neg_mul] at h1; omega
    have := Int.le_of_mul_le_mul_right this (by omega)
    omega
  · simp only [c, Bool.false_eq_true, if_false] at *
    have : (truncN b : Int) * unit1 < 9223372036854775808 * unit1 := by omega
    have := (mul_lt_u _ _).1 this
    omega

theorem sg_neg_abs (s : Bool) (n : Nat) : (sg s n).natAbs = n := by unfold sg; cases s <;> simp

theorem sg_lt0 (b : Nat) : sg (decide (truncI b < 0)) (truncN b) = sg (b / 9223372036854775808 % 2 == 1) (truncN b) := by
  unfold truncI sg
  cases (b / 9223372036854775808 % 2 == 1) <;> simp <;> omega

/-- back from the whole number: the same just if it was whole -/
theorem back_same (b : Nat) (hf : fin b = true) :
    fEq (double.write (.number (truncI b < 0) (truncI b).natAbs 0)) b = isWhole b ∧ double.write (.number (truncI b < 0) (truncI b).natAbs 0) < 18446744073709551616 := by
  have hp := place1_eq
  have hr : b % 9223372036854775808 < 9218868437227405312 := by simpa [fin] using hf
  have hn : (truncI b).natAbs = truncN b := sg_neg_abs _ _
  rw [hn]
  cases hw : isWhole b with
  | true =>
    have hv : truncN b * unit1 = mg (b % 9223372036854775808) := by
      unfold truncN
      rcases cut_cases .zero (b / 9223372036854775808 % 2 == 1) (b % 9223372036854775808) with ⟨k, h1, h2⟩ | ⟨h1, h2⟩
      · rw [h2, h1]
      · exfalso; apply h1; exact Nat.dvd_of_mod_eq_zero (by simpa [isWhole] using hw)
    have e : double.write (.number (truncI b < 0) (truncN b) 0) = double.word (truncI b < 0) (b % 9223372036854775808) :=
      nearest_exact _ _ 0 place1 _ (by omega) hr hv
    rw [e]
    obtain ⟨q1, q2, q3⟩ := fv_word (truncI b < 0) _ hr
    refine ⟨?_, q3⟩
    rw [fEq_fin _ _ (fin_nan _ q2) (fin_nan b hf), q1, decide_eq_true_eq, ← hv]
    unfold fv
    rw [← hv, sg_mul, sg_mul, sg_lt0]
  | false =>
    rcases cut_cases .zero (b / 9223372036854775808 % 2 == 1) (b % 9223372036854775808) with ⟨k, h1, h2⟩ | ⟨h1, h2⟩
    · exfalso
      have : isWhole b = true := by unfold isWhole; rw [h1]; simp
      rw [this] at hw; cases hw
    · obtain ⟨r, r1, r2, r3⟩ := write_int (truncI b < 0) (truncN b) (Nat.le_trans h2 (by omega))
      rw [r3]
      obtain ⟨q1, q2, q3⟩ := fv_word (truncI b < 0) r r1
      refine ⟨?_, q3⟩
      rw [fEq_fin _ _ (fin_nan _ q2) (fin_nan b hf), q1, r2, decide_eq_false_iff_not]
      unfold fv
      intro h
      apply h1
      have : mg (b % 9223372036854775808) = truncN b * unit1 := by
        have e1 := congrArg Int.natAbs h
        rw [sg_neg_abs, sg_neg_abs] at e1
        exact e1.symm
      rw [this]; exact Nat.dvd_mul_left _ _
end Go.Proofs.Ytconppelbjjkjaa
