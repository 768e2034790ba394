/- Plain facts on doubles: what can be written just so is; whole numbers; cutting. -/
import Derived.LoopN
import Derived.Handy
import Derived.Laws.StructEq
import Derived.Laws.BitsAllLaws
import Derived.RegionTactic
import Derived.Outline
import Derived.Test.YteoebfjhadmnbaaPSt1
import Derived.Test.YteoebfjhadmnbaaPSt3
import Derived.Test.YteoebfjhadmnbaaPSt4
namespace Go.Proofs.Yteoebfjhadmnbaa
open Ieee

theorem cut_none (way : Toward) (neg : Bool) (n : Nat) : way.cut neg n 0 = n := by
  unfold Toward.cut
  simp only [Nat.zero_min, Nat.shiftLeft_zero, Nat.div_one, Nat.mod_one, Nat.mul_zero]
  cases way <;> simp

theorem cut_exact (way : Toward) (neg : Bool) (k d : Nat) (h : k ≠ 0) : way.cut neg (k * 2 ^ d) d = k := by
  have hp : 0 < 2 ^ d := Nat.two_pow_pos d
  have hl : d ≤ (k * 2 ^ d).log2 := by
    have h1 : k * 2 ^ d ≠ 0 := Nat.mul_ne_zero h (by omega)
    rw [Nat.le_log2 h1]
    exact Nat.le_mul_of_pos_left _ (by omega)
  unfold Toward.cut
  dsimp only
  rw [Nat.min_eq_left (by omega), Nat.shiftLeft_eq, Nat.one_mul, Nat.mul_div_cancel _ hp, Nat.mul_mod_left]
  have : ¬ 2 ^ d = 0 := by omega
  cases way <;> simp

theorem log2_shift (m p : Nat) (h : m ≠ 0) : (m * 2 ^ p).log2 = m.log2 + p := by
  refine (Nat.log2_eq_iff (Nat.mul_ne_zero h (by have := Nat.two_pow_pos p; omega))).2 ⟨?_, ?_⟩
  · rw [Nat.pow_add]; exact Nat.mul_le_mul_right _ (Nat.log2_self_le h)
  · rw [show m.log2 + p + 1 = (m.log2 + 1) + p by omega, Nat.pow_add]
    exact Nat.mul_lt_mul_of_pos_right Nat.lt_log2_self (Nat.two_pow_pos p)

theorem mag_range (r : Nat) (h : 4503599627370496 ≤ r) : magOf r = 4503599627370496 + r % 4503599627370496 ∧ (magOf r).log2 = 52 ∧ expOf r = r / 4503599627370496 - 1 := by
  have e : magOf r = 4503599627370496 + r % 4503599627370496 := by unfold magOf; rw [if_neg (by omega)]
  refine ⟨e, ?_, by unfold expOf; rw [if_neg (by omega)]⟩
  rw [e]
  exact (Nat.log2_eq_iff (by omega)).2 ⟨by omega, by omega⟩

/-- WHAT CAN BE WRITTEN JUST SO IS: a number that is a rung's own is written as that rung. -/
theorem nearest_exact (neg : Bool) (mag : Nat) (place : Int) (p r : Nat) (hp : place = -1074 + (p : Int)) (hr : r < 9218868437227405312) (hv : mag * 2 ^ p = mg r) :
    double.nearest neg mag place = double.word neg r := by
  by_cases hm : mag = 0
  · subst hm
    rw [Nat.zero_mul] at hv
    have : r = 0 := mg_inj (by rw [← hv]; rfl)
    subst this
    unfold Format.nearest; rw [if_pos rfl]
  · unfold Format.nearest
    rw [if_neg hm]
    have hfb : (double.fractionBits : Int) = 52 := rfl
    have hlp : double.leastPlace = -1074 := rfl
    have hbi : double.binade = 4503599627370496 := rfl
    have hin : double.infRung = 9218868437227405312 := rfl
    simp only [hfb, hlp, hbi, hin]
    by_cases hs : 4503599627370496 ≤ r
    · obtain ⟨m1, m2, m3⟩ := mag_range r hs
      have hmr : magOf r ≠ 0 := by omega
      have hv' : mag * 2 ^ p = magOf r * 2 ^ expOf r := by rw [hv, mg_eq]
      have hl : mag.log2 + p = 52 + expOf r := by
        rw [← log2_shift mag p hm, hv', log2_shift _ _ hmr, m2]
      have hlast : max (place + (mag.log2 : Int) - 52) (-1074) = -1074 + (expOf r : Int) := by omega
      rw [hlast]
      have hk : Toward.even.cut neg (mag <<< (place - (-1074 + (expOf r : Int))).toNat) ((-1074 + (expOf r : Int)) - place).toNat = magOf r := by
        by_cases hpe : expOf r ≤ p
        · have e1 : (place - (-1074 + (expOf r : Int))).toNat = p - expOf r := by omega
          have e2 : ((-1074 + (expOf r : Int)) - place).toNat = 0 := by omega
          rw [e1, e2, cut_none, Nat.shiftLeft_eq]
          have : mag * 2 ^ (p - expOf r) * 2 ^ expOf r = magOf r * 2 ^ expOf r := by
            rw [Nat.mul_assoc, ← Nat.pow_add, Nat.sub_add_cancel hpe, hv']
          exact Nat.eq_of_mul_eq_mul_right (Nat.two_pow_pos _) this
        · have e1 : (place - (-1074 + (expOf r : Int))).toNat = 0 := by omega
          have e2 : ((-1074 + (expOf r : Int)) - place).toNat = expOf r - p := by omega
          rw [e1, e2, Nat.shiftLeft_zero]
          have : mag = magOf r * 2 ^ (expOf r - p) := by
            have h2 : mag * 2 ^ p = magOf r * 2 ^ (expOf r - p) * 2 ^ p := by
              rw [Nat.mul_assoc, ← Nat.pow_add, Nat.sub_add_cancel (by omega), hv']
            exact Nat.eq_of_mul_eq_mul_right (Nat.two_pow_pos _) h2
          rw [this, cut_exact _ _ _ _ hmr]
      rw [hk]
      have e3 : (-1074 + (expOf r : Int) - (-1074)).toNat = expOf r := by omega
      rw [e3, m1, m3]
      have e4 : (r / 4503599627370496 - 1) * 4503599627370496 + (4503599627370496 + r % 4503599627370496) = r := by omega
      rw [e4, Nat.min_eq_left (by omega)]
    · have hv' : mag * 2 ^ p = r := by rw [hv]; unfold mg; rw [if_pos (by omega)]
      have hl : mag.log2 + p < 52 := by
        have h1 := log2_shift mag p hm
        rw [hv'] at h1
        have hr0 : r ≠ 0 := by rw [← hv']; exact Nat.mul_ne_zero hm (by have := Nat.two_pow_pos p; omega)
        have := (Nat.log2_lt hr0).2 (show r < 2 ^ 52 by omega)
        omega
      have hlast : max (place + (mag.log2 : Int) - 52) (-1074) = -1074 := by omega
      rw [hlast]
      have e1 : (place - (-1074)).toNat = p := by omega
      have e2 : (-1074 - place).toNat = 0 := by omega
      have e3 : ((-1074 : Int) - (-1074)).toNat = 0 := by omega
      rw [e1, e2, e3, cut_none, Nat.shiftLeft_eq, hv', Nat.zero_mul, Nat.zero_add, Nat.min_eq_left (by omega)]

theorem mg_rung (e k : Nat) (h1 : 4503599627370496 ≤ k) (h2 : k ≤ 9007199254740992) : mg (e * 4503599627370496 + k) = k * 2 ^ e := by
  unfold mg
  rw [if_neg (by omega)]
  by_cases h : k = 9007199254740992
  · subst h
    have e1 : (e * 4503599627370496 + 9007199254740992) % 4503599627370496 = 0 := by omega
    have e2 : (e * 4503599627370496 + 9007199254740992) / 4503599627370496 - 1 = e + 1 := by omega
    rw [e1, e2, Nat.pow_succ]
    have hp : 0 < 2 ^ e := Nat.two_pow_pos _
    generalize 2 ^ e = p at *
    omega
  · have e1 : (e * 4503599627370496 + k) % 4503599627370496 = k - 4503599627370496 := by omega
    have e2 : (e * 4503599627370496 + k) / 4503599627370496 - 1 = e := by omega
    rw [e1, e2, show 4503599627370496 + (k - 4503599627370496) = k by omega]

/-- EVERY NUMBER OF AT MOST 53 DIGITS AT A PLACE IN REACH HAS ITS RUNG. -/
theorem ex_rung (m p : Nat) (hm : m ≤ 9007199254740992) (hp : p ≤ 2000) : ∃ r, r < 9218868437227405312 ∧ mg r = m * 2 ^ p := by
  by_cases h0 : m = 0
  · subst h0; exact ⟨0, by decide, by rw [Nat.zero_mul]; rfl⟩
  · by_cases hs : m * 2 ^ p < 4503599627370496
    · exact ⟨m * 2 ^ p, by omega, by unfold mg; rw [if_pos hs]⟩
    · by_cases ht : m = 9007199254740992
      · subst ht
        exact ⟨p * 4503599627370496 + 9007199254740992, by omega, mg_rung p _ (by omega) (by omega)⟩
      · have hL : m.log2 ≤ 52 := by have := (Nat.log2_lt h0).2 (show m < 2 ^ 53 by omega); omega
        have hl := log2_shift m p h0
        have hp52 : 52 ≤ m.log2 + p := by
          rw [← hl]
          have hne : m * 2 ^ p ≠ 0 := by omega
          exact (Nat.le_log2 hne).2 (by omega)
        have lo := Nat.log2_self_le h0
        have hi : m < 2 ^ (m.log2 + 1) := Nat.lt_log2_self
        have k1 : m * 2 ^ (52 - m.log2) ≥ 4503599627370496 := by
          have : 2 ^ m.log2 * 2 ^ (52 - m.log2) = 4503599627370496 := by rw [← Nat.pow_add, show m.log2 + (52 - m.log2) = 52 by omega]
          rw [← this]; exact Nat.mul_le_mul_right _ lo
        have k2 : m * 2 ^ (52 - m.log2) ≤ 9007199254740992 := by
          have : 2 ^ (m.log2 + 1) * 2 ^ (52 - m.log2) = 9007199254740992 := by rw [← Nat.pow_add, show m.log2 + 1 + (52 - m.log2) = 53 by omega]
          rw [← this]; exact Nat.mul_le_mul_right _ (by omega)
        refine ⟨(m.log2 + p - 52) * 4503599627370496 + m * 2 ^ (52 - m.log2), by omega, ?_⟩
        rw [mg_rung _ _ k1 k2, Nat.mul_assoc, ← Nat.pow_add, show 52 - m.log2 + (m.log2 + p - 52) = p by omega]

/-- the value of a finite double, in units of the least place -/
def fv (b : Nat) : Int := sg (b / 9223372036854775808 % 2 == 1) (mg (b % 9223372036854775808))
def fin (b : Nat) : Bool := decide (b % 9223372036854775808 < 9218868437227405312)

theorem word_eq (s : Bool) (r : Nat) : double.word s r = if s then 9223372036854775808 + r else r := rfl
theorem word_parts (s : Bool) (r : Nat) (h : r < 9223372036854775808) : double.word s r % 9223372036854775808 = r ∧ (double.word s r / 9223372036854775808 % 2 == 1) = s ∧ double.word s r < 18446744073709551616 := by
  rw [word_eq]
  cases s <;> simp <;> omega
theorem word_back (b : Nat) (h : b < 18446744073709551616) : double.word (b / 9223372036854775808 % 2 == 1) (b % 9223372036854775808) = b := by
  rw [word_eq]
  by_cases c : b / 9223372036854775808 % 2 = 1
  · simp [c]; omega
  · simp [c]; omega
theorem fv_word (s : Bool) (r : Nat) (h : r < 9218868437227405312) : fv (double.word s r) = sg s (mg r) ∧ fin (double.word s r) = true ∧ double.word s r < 18446744073709551616 := by
  obtain ⟨h1, h2, h3⟩ := word_parts s r (by omega)
  refine ⟨?_, ?_, h3⟩
  · unfold fv; rw [h1, h2]
  · unfold fin; rw [h1]; simpa using h

theorem cmp_lt (a b c d : Int) (h : compare a b = compare c d) : a < b ↔ c < d := by
  rw [cmp_int, cmp_int] at h
  constructor
  · intro k; rw [if_pos k] at h
    by_cases k2 : c < d
    · exact k2
    · rw [if_neg k2] at h; split at h <;> cases h
  · intro k; rw [if_pos k] at h
    by_cases k2 : a < b
    · exact k2
    · rw [if_neg k2] at h; split at h <;> cases h
theorem cmp_eq (a b c d : Int) (h : compare a b = compare c d) : a = b ↔ c = d := by
  rw [cmp_int, cmp_int] at h
  by_cases k : a < b
  · rw [if_pos k] at h
    have : c < d := by
      by_cases k2 : c < d
      · exact k2
      · rw [if_neg k2] at h; split at h <;> cases h
    omega
  · rw [if_neg k] at h
    by_cases k2 : c < d
    · rw [if_pos k2] at h; split at h <;> cases h
    · rw [if_neg k2] at h
      by_cases e : a = b <;> by_cases f : c = d <;> simp [e, f] at h ⊢
theorem sr_fv_lt (a b : Nat) : sr a < sr b ↔ fv a < fv b := by
  rw [sr_eq, sr_eq]; exact (cmp_lt _ _ _ _ (sg_cmp _ _ _ _)).symm
theorem sr_fv_eq (a b : Nat) : sr a = sr b ↔ fv a = fv b := by
  rw [sr_eq, sr_eq]; exact (cmp_eq _ _ _ _ (sg_cmp _ _ _ _)).symm
theorem fin_nan (b : Nat) (h : fin b = true) : isnan b = false := by
  simp [fin] at h; simp [isnan]; omega
theorem read_fin (b : Nat) (h : fin b = true) : double.read b = .number (b / 9223372036854775808 % 2 == 1) (magOf (b % 9223372036854775808)) (-1074 + (expOf (b % 9223372036854775808) : Nat)) :=
  read_num b (by simpa [fin] using h)

/-- one, in units of the least place -/
def place1 : Nat := 1074
def unit1 : Nat := 2 ^ place1
theorem place1_eq : place1 = 1074 := rfl
theorem unit1_pos : 0 < unit1 := Nat.two_pow_pos _

/-- A WHOLE NUMBER OF AT MOST 53 DIGITS IS WRITTEN JUST SO. -/
theorem write_int (s : Bool) (c : Nat) (hc : c ≤ 9007199254740992) : ∃ r, r < 9218868437227405312 ∧ mg r = c * unit1 ∧ double.write (.number s c 0) = double.word s r := by
  have hp := place1_eq
  obtain ⟨r, h1, h2⟩ := ex_rung c place1 hc (by omega)
  exact ⟨r, h1, h2, nearest_exact s c 0 place1 r (by omega) h1 h2.symm⟩

theorem magOf_lt (r : Nat) : magOf r < 9007199254740992 := by
  unfold magOf; split <;> omega

/-- cut by two and more: what is left has at most 52 digits and one -/
theorem cut_small (way : Toward) (s : Bool) (m d : Nat) (hm : m < 9007199254740992) (hd : d ≠ 0) : way.cut s m d ≤ 4503599627370496 := by
  unfold Toward.cut
  dsimp only
  have hg : 2 ≤ 1 <<< min d (m.log2 + 2) := by
    rw [Nat.shiftLeft_eq, Nat.one_mul]
    calc 2 = 2 ^ 1 := rfl
      _ ≤ _ := Nat.pow_le_pow_right (by omega) (by omega)
  have hl : m / (1 <<< min d (m.log2 + 2)) ≤ m / 2 := Nat.div_le_div_left hg (by omega)
  have hb : ∀ b : Bool, b.toNat ≤ 1 := fun b => by cases b <;> decide
  refine Nat.le_trans (Nat.add_le_add hl (hb _)) ?_
  omega

/-- the whole number that a finite double is cut to, towards nought -/
def truncN (b : Nat) : Nat := Toward.zero.cut (b / 9223372036854775808 % 2 == 1) (magOf (b % 9223372036854775808) <<< (-1074 + (expOf (b % 9223372036854775808) : Int)).toNat) (-(-1074 + (expOf (b % 9223372036854775808) : Int))).toNat

theorem cut_cases (way : Toward) (s : Bool) (r : Nat) :
    (∃ k, mg r = k * unit1 ∧ way.cut s (magOf r <<< (-1074 + (expOf r : Int)).toNat) (-(-1074 + (expOf r : Int))).toNat = k) ∨
    ((¬ unit1 ∣ mg r) ∧ way.cut s (magOf r <<< (-1074 + (expOf r : Int)).toNat) (-(-1074 + (expOf r : Int))).toNat ≤ 4503599627370496) := by
  have hp := place1_eq
  by_cases he : place1 ≤ expOf r
  · left
    have e1 : (-1074 + (expOf r : Int)).toNat = expOf r - place1 := by omega
    have e2 : (-(-1074 + (expOf r : Int))).toNat = 0 := by omega
    rw [e1, e2, cut_none, Nat.shiftLeft_eq]
    refine ⟨_, ?_, rfl⟩
    rw [mg_eq, Nat.mul_assoc, unit1, ← Nat.pow_add, Nat.sub_add_cancel he]
  · have e1 : (-1074 + (expOf r : Int)).toNat = 0 := by omega
    have e2 : (-(-1074 + (expOf r : Int))).toNat = place1 - expOf r := by omega
    rw [e1, e2, Nat.shiftLeft_zero]
    by_cases hd : unit1 ∣ mg r
    · left
      obtain ⟨k, hk⟩ := hd
      have hk' : magOf r = k * 2 ^ (place1 - expOf r) := by
        rw [mg_eq] at hk
        have : magOf r * 2 ^ expOf r = k * 2 ^ (place1 - expOf r) * 2 ^ expOf r := by
          rw [hk, Nat.mul_assoc, ← Nat.pow_add, Nat.sub_add_cancel (by omega), Nat.mul_comm, unit1]
        exact Nat.eq_of_mul_eq_mul_right (Nat.two_pow_pos _) this
      refine ⟨k, by rw [hk, Nat.mul_comm], ?_⟩
      rw [hk']
      by_cases h0 : k = 0
      · subst h0
        rw [Nat.zero_mul]
        unfold Toward.cut
        dsimp only
        rw [Nat.zero_div, Nat.zero_mod]
        cases way <;> simp
      · exact cut_exact _ _ _ _ h0
    · exact .inr ⟨hd, cut_small _ _ _ _ (magOf_lt r) (by omega)⟩

/-- is a finite double a whole number? -/
def isWhole (b : Nat) : Bool := decide (mg (b % 9223372036854775808) % unit1 = 0)

theorem sg_mul (s : Bool) (a u : Nat) : sg s (a * u) = sg s a * u := by
  unfold sg; cases s
  · simp
  · simp [Int.neg_mul]

/-- A DOUBLE MADE WHOLE (down, to nought ..) IS ITSELF JUST IF IT IS WHOLE. -/
theorem integral_same (way : Toward) (b : Nat) (hb : b < 18446744073709551616) (hf : fin b = true) :
    (isWhole b = true ∧ double.write ((double.read b).integral way) = b) ∨
    (isWhole b = false ∧ fin (double.write ((double.read b).integral way)) = true ∧ fv (double.write ((double.read b).integral way)) ≠ fv b) := by
  rw [read_fin b hf]
  have hr : b % 9223372036854775808 < 9218868437227405312 := by simpa [fin] using hf
  simp only [Datum.integral]
  rcases cut_cases way (b / 9223372036854775808 % 2 == 1) (b % 9223372036854775808) with ⟨k, h1, h2⟩ | ⟨h1, h2⟩
  · left
    refine ⟨by unfold isWhole; rw [h1]; simp, ?_⟩
    rw [h2]
    have hp := place1_eq
    have := nearest_exact (b / 9223372036854775808 % 2 == 1) k 0 place1 (b % 9223372036854775808) (by omega) hr h1.symm
    exact this.trans (word_back b hb)
  · right
    have hw : isWhole b = false := by
      unfold isWhole; simp; intro h; exact h1 (Nat.dvd_of_mod_eq_zero h)
    refine ⟨hw, ?_⟩
    obtain ⟨r, r1, r2, r3⟩ := write_int (b / 9223372036854775808 % 2 == 1) _ (Nat.le_trans h2 (by omega))
    rw [r3]
    obtain ⟨q1, q2, q3⟩ := fv_word (b / 9223372036854775808 % 2 == 1) r r1
    refine ⟨q2, ?_⟩
    rw [q1, r2]
    unfold fv
    intro h
    apply h1
    rw [sg_mul] at h
    have : mg (b % 9223372036854775808) = Toward.cut way (b / 9223372036854775808 % 2 == 1) (magOf (b % 9223372036854775808) <<< (-1074 + (expOf (b % 9223372036854775808) : Int)).toNat) (-(-1074 + (expOf (b % 9223372036854775808) : Int))).toNat * unit1 := by
      rw [← sg_mul] at h
      unfold sg at h
      split at h <;> omega
    rw [this]
    exact Nat.dvd_mul_left _ _

/-- what a finite double comes to as a whole number, cut towards nought -/
def truncI (b : Nat) : Int := sg (b / 9223372036854775808 % 2 == 1) (truncN b)

theorem toInt_fin (b : Nat) (hf : fin b = true) : (double.read b).toInt .zero = some (truncI b) := by
  rw [read_fin b hf]
  simp only [Datum.toInt, Datum.integral, signed, Nat.shiftLeft_zero]
  rfl

theorem trunc_whole (b : Nat) (hw : isWhole b = true) : fv b = truncI b * unit1 := by
  unfold fv truncI truncN
  rw [← sg_mul]
  rcases cut_cases .zero (b / 9223372036854775808 % 2 == 1) (b % 9223372036854775808) with ⟨k, h1, h2⟩ | ⟨h1, h2⟩
  · rw [h2, h1]
  · exfalso; apply h1; exact Nat.dvd_of_mod_eq_zero (by simpa [isWhole] using hw)

/-- cut towards nought: no further from nought -/
theorem cut_zero_le (s : Bool) (m d : Nat) : Toward.zero.cut s m d * 2 ^ d ≤ m := by
  unfold Toward.cut
  dsimp only
  rw [Nat.shiftLeft_eq, Nat.one_mul]
  show (m / 2 ^ min d (m.log2 + 2) + false.toNat) * 2 ^ d ≤ m
  have : (false : Bool).toNat = 0 := rfl
  rw [this, Nat.add_zero]
  by_cases h : d ≤ m.log2 + 2
  · rw [Nat.min_eq_left h]; exact Nat.div_mul_le_self _ _
  · rw [Nat.min_eq_right (by omega)]
    have hlt : m < 2 ^ (m.log2 + 2) := Nat.lt_trans Nat.lt_log2_self (Nat.pow_lt_pow_right (by omega) (by omega))
    rw [Nat.div_eq_of_lt hlt, Nat.zero_mul]; omega

theorem trunc_le (b : Nat) : truncN b * unit1 ≤ mg (b % 9223372036854775808) := by
  have hp := place1_eq
  unfold truncN
  generalize b % 9223372036854775808 = r
  by_cases he : place1 ≤ expOf r
  · have e1 : (-1074 + (expOf r : Int)).toNat = expOf r - place1 := by omega
    have e2 : (-(-1074 + (expOf r : Int))).toNat = 0 := by omega
    rw [e1, e2, cut_none, Nat.shiftLeft_eq, mg_eq, Nat.mul_assoc, unit1, ← Nat.pow_add, Nat.sub_add_cancel he]
    exact Nat.le_refl _
  · have e1 : (-1074 + (expOf r : Int)).toNat = 0 := by omega
    have e2 : (-(-1074 + (expOf r : Int))).toNat = place1 - expOf r := by omega
    rw [e1, e2, Nat.shiftLeft_zero, mg_eq, unit1]
    have h := cut_zero_le (b / 9223372036854775808 % 2 == 1) (magOf r) (place1 - expOf r)
    calc _ = (Toward.zero.cut (b / 9223372036854775808 % 2 == 1) (magOf r) (place1 - expOf r) * 2 ^ (place1 - expOf r)) * 2 ^ expOf r := by
            rw [Nat.mul_assoc, ← Nat.pow_add, Nat.sub_add_cancel (by omega)]
      _ ≤ _ := Nat.mul_le_mul_right _ h

theorem mg_two63 : mg 4890909195324358656 = 9223372036854775808 * unit1 := by
  have hp := place1_eq
  rw [mg_eq]
  have e1 : magOf 4890909195324358656 = 2 ^ 52 := by decide
  have e2 : expOf 4890909195324358656 = 11 + place1 := by decide
  rw [e1, e2, Nat.pow_add, ← Nat.mul_assoc, ← Nat.pow_add, unit1]
theorem fv_hi : fv 4890909195324358656 = 9223372036854775808 * (unit1 : Int) := by
  have : fv 4890909195324358656 = (mg 4890909195324358656 : Nat) := by
    unfold fv sg; simp
  rw [this, mg_two63]; simp
theorem fv_lo : fv 14114281232179134464 = -9223372036854775808 * (unit1 : Int) := by
  have : fv 14114281232179134464 = -((mg 4890909195324358656 : Nat) : Int) := by
    unfold fv sg; simp
  rw [this, mg_two63]; simp [Int.neg_mul]


theorem fLt_fin (a b : Nat) (ha : isnan a = false) (hb : isnan b = false) : fLt a b = decide (fv a < fv b) := by
  unfold fLt; rw [ha, hb]; simp only [Bool.not_false, Bool.true_and, decide_eq_decide]; exact sr_fv_lt a b
theorem fEq_fin (a b : Nat) (ha : isnan a = false) (hb : isnan b = false) : fEq a b = decide (fv a = fv b) := by
  unfold fEq; rw [ha, hb]; simp only [Bool.not_false, Bool.true_and, decide_eq_decide]; exact sr_fv_eq a b

theorem mul_lt_u (a b : Int) : a * (unit1 : Int) < b * (unit1 : Int) ↔ a < b := Int.mul_lt_mul_right (by have := unit1_pos; omega)
theorem mul_eq_u (a b : Int) : a * (unit1 : Int) = b * (unit1 : Int) ↔ a = b := Int.mul_eq_mul_right_iff (by have := unit1_pos; omega)

def wholeIs (b : Nat) : Bool := fin b && isWhole b && decide (-9223372036854775808 ≤ truncI b) && decide (truncI b < 9223372036854775808)
def wholeOf (b : Nat) : Int := if wholeIs b then truncI b else 0

theorem lt_lo (b : Nat) (hf : fin b = true) (hw : isWhole b = true) : fLt b 14114281232179134464 = decide (truncI b < -9223372036854775808) := by
  rw [fLt_fin _ _ (fin_nan b hf) (by decide), fv_lo, trunc_whole b hw, decide_eq_decide]
  exact mul_lt_u _ _
theorem ge_hi (b : Nat) (hf : fin b = true) (hw : isWhole b = true) : (fLt 4890909195324358656 b || fEq b 4890909195324358656) = decide (9223372036854775808 ≤ truncI b) := by
  rw [fLt_fin _ _ (by decide) (fin_nan b hf), fEq_fin _ _ (fin_nan b hf) (by decide), fv_hi, trunc_whole b hw, Bool.eq_iff_iff]
  simp only [Bool.or_eq_true, decide_eq_true_eq]
  rw [mul_lt_u, mul_eq_u]; omega

/-- of any finite double in reach, whole or not -/
theorem trunc_range (b : Nat) (hf : fin b = true) (h1 : fLt b 14114281232179134464 = false) (h2 : (fLt 4890909195324358656 b || fEq b 4890909195324358656) = false) :
    -9223372036854775808 ≤ truncI b ∧ truncI b < 9223372036854775808 := by
  rw [fLt_fin _ _ (fin_nan b hf) (by decide), fv_lo] at h1
  rw [fLt_fin _ _ (by decide) (fin_nan b hf), fEq_fin _ _ (fin_nan b hf) (by decide), fv_hi] at h2
  simp only [decide_eq_false_iff_not, Bool.or_eq_false_iff] at h1 h2
  obtain ⟨h2, h3⟩ := h2
  have hu := unit1_pos
  have ht := trunc_le b
  have ht' : (truncN b : Int) * unit1 ≤ (mg (b % 9223372036854775808) : Int) := by
    have : ((truncN b * unit1 : Nat) : Int) ≤ (mg (b % 9223372036854775808) : Int) := by omega
    simpa using this
  unfold fv at h1 h2 h3
  unfold truncI
  unfold sg at *
  by_cases c : (b / 9223372036854775808 % 2 == 1) = true
  · simp only [c, if_true] at *
    have : (truncN b : Int) * unit1 ≤ 9223372036854775808 * unit1 := by
      rw [Int.neg_mul] at h1; omega
    have := Int.le_of_mul_le_mul_right this (by omega)
    omega
  · simp only [c, Bool.false_eq_true, if_false] at *
    have : (truncN b : Int) * unit1 < 9223372036854775808 * unit1 := by omega
    have := (mul_lt_u _ _).1 this
    omega

theorem sg_neg_abs (s : Bool) (n : Nat) : (sg s n).natAbs = n := by unfold sg; cases s <;> simp

theorem sg_lt0 (b : Nat) : sg (decide (truncI b < 0)) (truncN b) = sg (b / 9223372036854775808 % 2 == 1) (truncN b) := by
  unfold truncI sg
  cases (b / 9223372036854775808 % 2 == 1) <;> simp <;> omega

/-- back from the whole number: the same just if it was whole -/
theorem back_same (b : Nat) (hf : fin b = true) :
    fEq (double.write (.number (truncI b < 0) (truncI b).natAbs 0)) b = isWhole b ∧ double.write (.number (truncI b < 0) (truncI b).natAbs 0) < 18446744073709551616 := by
  have hp := place1_eq
  have hr : b % 9223372036854775808 < 9218868437227405312 := by simpa [fin] using hf
  have hn : (truncI b).natAbs = truncN b := sg_neg_abs _ _
  rw [hn]
  cases hw : isWhole b with
  | true =>
    have hv : truncN b * unit1 = mg (b % 9223372036854775808) := by
      unfold truncN
      rcases cut_cases .zero (b / 9223372036854775808 % 2 == 1) (b % 9223372036854775808) with ⟨k, h1, h2⟩ | ⟨h1, h2⟩
      · rw [h2, h1]
      · exfalso; apply h1; exact Nat.dvd_of_mod_eq_zero (by simpa [isWhole] using hw)
    have e : double.write (.number (truncI b < 0) (truncN b) 0) = double.word (truncI b < 0) (b % 9223372036854775808) :=
      nearest_exact _ _ 0 place1 _ (by omega) hr hv
    rw [e]
    obtain ⟨q1, q2, q3⟩ := fv_word (truncI b < 0) _ hr
    refine ⟨?_, q3⟩
    rw [fEq_fin _ _ (fin_nan _ q2) (fin_nan b hf), q1, decide_eq_true_eq, ← hv]
    unfold fv
    rw [← hv, sg_mul, sg_mul, sg_lt0]
  | false =>
    rcases cut_cases .zero (b / 9223372036854775808 % 2 == 1) (b % 9223372036854775808) with ⟨k, h1, h2⟩ | ⟨h1, h2⟩
    · exfalso
      have : isWhole b = true := by unfold isWhole; rw [h1]; simp
      rw [this] at hw; cases hw
    · obtain ⟨r, r1, r2, r3⟩ := write_int (truncI b < 0) (truncN b) (Nat.le_trans h2 (by omega))
      rw [r3]
      obtain ⟨q1, q2, q3⟩ := fv_word (truncI b < 0) r r1
      refine ⟨?_, q3⟩
      rw [fEq_fin _ _ (fin_nan _ q2) (fin_nan b hf), q1, r2, decide_eq_false_iff_not]
      unfold fv
      intro h
      apply h1
      have : mg (b % 9223372036854775808) = truncN b * unit1 := by
        have e1 := congrArg Int.natAbs h
        rw [sg_neg_abs, sg_neg_abs] at e1
        exact e1.symm
      rw [this]; exact Nat.dvd_mul_left _ _
end Go.Proofs.Yteoebfjhadmnbaa
/- known's quantile: of 1 and 2, half the way; the sort of two numbers in order. -/
namespace Go.Proofs.Yteoebfjhadmnbaa
open Go.RowKit Ieee
set_option maxHeartbeats 4000000
set_option linter.unusedVariables false
set_option linter.unusedSimpArgs false
theorem floor_half (w : World) : (callFunc 66 #[.float .f64 4602678819172646912]).run Try.prog w = .ok (.value (.float .f64 0)) w := by
  have h : (callFunc 66 #[.float .f64 4602678819172646912]).run Try.prog w = ((Extern.MathFloor.toIntegral "math.archFloor" .down #[.float .f64 4602678819172646912]).run Try.prog w).andThen fun v w' => .ok (.value v) w' :=
    run_callFunc_extern (fn := Try.f66) (e := Extern.MathFloor.toIntegral "math.archFloor" .down) (by kernel_rfl) (by kernel_rfl) (by kernel_rfl) (by kernel_rfl) (by kernel_rfl) #[.float .f64 4602678819172646912] w
  rw [h]
  rfl
theorem floorh_b (w : World) : Calls Try.prog 52 #[.float .f64 4602678819172646912] w fun e w' => e = .returned (.float .f64 0) ∧ w' = w := by
  have hr := floor_half w
  go_enter Try.func52, Try.ntmps52
  go_wp2
  go_ret
  exact ⟨rfl, rfl⟩
theorem cmp21_b (w : World) : Calls Try.prog 51 #[.float .f64 4611686018427387904, .float .f64 4607182418800017408] w fun e w' => e = .returned (.int .i64 1) ∧ w' = w := by
  go_enter Try.func51, Try.ntmps51
  go_wp2_with fail
  refine (compare_any _ _ (by decide) (by decide) _).mono ?_
  rintro e w' ⟨rfl, rfl⟩
  rw [show cmp3 (ofReal 4611686018427387904) (ofReal 4607182418800017408) = 1 by decide]
  go_wp2
  go_ret
  exact ⟨rfl, rfl⟩
set_option maxRecDepth 100000 in
theorem ins_b {w : World} {g o c : Nat} (hc : 2 ≤ c) (h0 : w.cell? ⟨g, o, none⟩ = some (.float .f64 4607182418800017408)) (h1 : w.cell? ⟨g, o + 1, none⟩ = some (.float .f64 4611686018427387904)) :
    Calls Try.prog 76 #[.slice (some ⟨g, o, none⟩) 2 c, .int .i64 0, .int .i64 2, .func (.func 51) #[] #[]] w fun e w' => e = .returned (.tuple #[]) ∧ ∃ n, w' = w.drewN n := by
  go_enter Try.func76, Try.ntmps76
  go_wp2_with fail
  refine wp_loop_rounds 2 ?_
  rw [rounds_succ]
  go_wp2_with fail
  refine wp_loop_rounds 1 ?_
  rw [rounds_succ]
  have hw0 : IntKind.i64.wrap 0 = 0 := by decide
  go_upto_region 4 with (fail)
  refine wp_region_mixH (fun W' => W'.cell? ⟨g, o, none⟩ = some (.float .f64 4607182418800017408) ∧ W'.cell? ⟨g, o + 1, none⟩ = some (.float .f64 4611686018427387904)) [3, 3, 3, 3, 3, 3, 3, 3, 0, 3, 3, 3, 3, 0, 2, 3, 3] (List.range 17) (by kernel_rfl) (by kernel_rfl) (fun _ _ h => h) ⟨h0, h1⟩ ?_
  repeat (first | ((first | refine wpMixH_pure rfl rfl (fun K hK => ?_) | refine wpMixH_loc rfl rfl (fun K hK => ?_) | refine wpMixH_any rfl rfl (fun K hK => ?_)); go_simp; refine hK _ _ ?_; clear hK K) | (refine wpMixH_any rfl rfl (fun K hK => ?_); rw [if_pos (by go_simp)]; apply Exists.intro; refine And.intro (fun w2 hS2 => ?_) (hK _ _ ?_); (focus (obtain ⟨hs0, hs1⟩ := hS2; go_simp; rfl)); clear hK K))
  refine wpMixH_loud rfl rfl (fun n1 K hK => ?_)
  go_wp2_with fail
  refine (cmp21_b _).mono ?_
  rintro _ _ ⟨rfl, rfl⟩
  go_wp2_with fail
  refine hK _ _ (fun h => (Bool.false_ne_true ((Eq.symm (by kernel_rfl)).trans h)).elim) ?_; clear hK K
  repeat ((first | refine wpMixH_pure rfl rfl (fun K hK => ?_) | refine wpMixH_loc rfl rfl (fun K hK => ?_) | refine wpMixH_any rfl rfl (fun K hK => ?_)); go_simp; refine hK _ _ ?_; clear hK K)
  refine wpMixH_nil (fun n2 => ?_)
  go_wp2
  rw [rounds_succ]
  go_wp2
  exact bodyPost_end (results_none rfl _ _ _) rfl ⟨rfl, _, rfl⟩
set_option maxRecDepth 100000 in
theorem stable_b {w : World} {g o c : Nat} (hc : 2 ≤ c) (h0 : w.cell? ⟨g, o, none⟩ = some (.float .f64 4607182418800017408)) (h1 : w.cell? ⟨g, o + 1, none⟩ = some (.float .f64 4611686018427387904)) :
    Calls Try.prog 72 #[.slice (some ⟨g, o, none⟩) 2 c, .int .i64 2, .func (.func 51) #[] #[]] w fun e w' => e = .returned (.tuple #[]) ∧ ∃ n, w' = w.drewN n := by
  go_enter Try.func72, Try.ntmps72
  go_wp2_with fail
  refine wp_loop_rounds 1 ?_
  rw [rounds_succ]
  go_wp2_with fail
  refine (ins_b hc h0 h1).mono ?_
  rintro _ _ ⟨rfl, n, rfl⟩
  go_wp2_with fail
  refine wp_loop_rounds 1 ?_
  rw [rounds_succ]
  go_wp2
  exact bodyPost_end (results_none rfl _ _ _) rfl ⟨rfl, _, rfl⟩
set_option maxRecDepth 100000 in
theorem sort_b {w : World} {g o c : Nat} (hc : 2 ≤ c) (h0 : w.cell? ⟨g, o, none⟩ = some (.float .f64 4607182418800017408)) (h1 : w.cell? ⟨g, o + 1, none⟩ = some (.float .f64 4611686018427387904)) :
    Calls Try.prog 64 #[.slice (some ⟨g, o, none⟩) 2 c, .func (.func 51) #[] #[]] w fun e w' => e = .returned (.tuple #[]) ∧ ∃ n, w' = w.drewN n := by
  go_enter Try.func64, Try.ntmps64
  go_wp2_with fail
  refine (stable_b hc h0 h1).mono ?_
  rintro _ _ ⟨rfl, n, rfl⟩
  go_wp2
  exact bodyPost_end (results_none rfl _ _ _) rfl ⟨rfl, _, rfl⟩
theorem fres_of {op : BinOp} {x y r : Nat} (h : floatBits op .f64 x y = some r) : (∀ W, fres op x y W = r) ∧ fdr op x y = 0 := by
  unfold fres fdr
  rw [h]
  exact ⟨fun _ => rfl, rfl⟩
/-- the two numbers in memory -/
def Two (w : World) (v : Value) : Prop := ∃ g o c, v = .slice (some ⟨g, o, none⟩) 2 c ∧ 2 ≤ c ∧ w.cell? ⟨g, o, none⟩ = some (.float .f64 4607182418800017408) ∧ w.cell? ⟨g, o + 1, none⟩ = some (.float .f64 4611686018427387904)
theorem cell_lt {w : World} {g o : Nat} {v : Value} (h0 : w.cell? ⟨g, o, none⟩ = some v) : g < w.heap.size := Nat.lt_of_not_le fun hh => by
  unfold World.cell? at h0
  rw [Array.getElem?_eq_none hh] at h0
  cases h0
theorem cap_two (t : TypeId) (x : Nat) : 2 ≤ (Question.appendCap 2 0 t).cut x := Nat.le_add_right _ _
set_option maxRecDepth 100000 in
theorem clone_b {w : World} {v : Value} (h : Two w v) : Calls Try.prog 63 #[v] w fun e w' => ∃ u, e = .returned u ∧ Two w' u ∧ Below w.heap.size w w' := by
  obtain ⟨g, o, c, rfl, hc, h0, h1⟩ := h
  have hg := cell_lt h0
  have hW := Lib.hid ((Below.refl w.heap.size w).alloc (Nat.le_refl _) (.cells #[] 105))
  have hnil : ∀ W, (binOp .eql 104 (.slice (some ⟨g, o, none⟩) 2 c) (.slice none 0 0)).run Try.prog W = .ok (.bool false) W := fun W => by kernel_rfl
  go_enter Try.func63, Try.ntmps63
  go_wp2_with fail
  have hb := (hW.out.alloc hW.out.size (Obj.cells (#[Value.float FloatKind.f64 4607182418800017408, Value.float FloatKind.f64 4611686018427387904] ++ Builtin.zeroCells #[Value.float FloatKind.f64 0] ((Question.appendCap 2 0 105).cut (w.tape w.drawn (Question.appendCap 2 0 105)) - 2)) 105)).drew
  have hN := Blk.new (w.alloc (.cells #[] 105)) 105 (#[Value.float FloatKind.f64 4607182418800017408, Value.float FloatKind.f64 4611686018427387904] ++ Builtin.zeroCells #[Value.float FloatKind.f64 0] ((Question.appendCap 2 0 105).cut (w.tape w.drawn (Question.appendCap 2 0 105)) - 2))
  rw [World.size_alloc] at hN
  have k0 := hN.cell 0
  have k1 := hN.cell 1
  rw [Array.getElem?_append_left (by simp)] at k0 k1
  go_ret
  exact ⟨_, rfl, ⟨w.heap.size + 1, 0, _, rfl, cap_two _ _, k0, k1⟩, hb⟩
set_option maxRecDepth 100000 in
theorem sorted_b {w : World} {v : Value} (h : Two w v) : Calls Try.prog 50 #[v, .func (.func 51) #[] #[]] w fun e w' => ∃ u, e = .returned u ∧ Two w' u ∧ Below w.heap.size w w' := by
  have C := Lib.hid (clone_b h)
  obtain ⟨g, o, c, rfl, hc, h0, h1⟩ := h
  go_enter Try.func50, Try.ntmps50
  go_wp2_with fail
  refine C.out.mono ?_
  rintro _ w1 ⟨u, rfl, ⟨g1, o1, c1, rfl, hc1, k0, k1⟩, hb⟩
  replace hb := Lib.hid hb
  go_wp2_with fail
  refine (sort_b hc1 k0 k1).mono ?_
  rintro _ _ ⟨rfl, n, rfl⟩
  go_wp2
  go_ret
  exact ⟨_, rfl, ⟨g1, o1, c1, rfl, hc1, k0, k1⟩, below_drewNs hb.out n⟩
set_option maxRecDepth 100000 in
theorem quant_b {w : World} {g o c : Nat} (hc : 2 ≤ c) (h0 : w.cell? ⟨g, o, none⟩ = some (.float .f64 4607182418800017408)) (h1 : w.cell? ⟨g, o + 1, none⟩ = some (.float .f64 4611686018427387904)) :
    Calls Try.prog 38 #[.float .f64 4602678819172646912, .slice (some ⟨g, o, none⟩) 2 c] w fun e w' => e = .returned (.tuple #[.float .f64 4609434218613702656, .int .i64 0]) ∧ Below w.heap.size w w' := by
  have hg := cell_lt h0
  have hmk : ∀ W, (Instr.makeSlice 104 (.int .i64 2) (.int .i64 2)).run Try.prog W = .ok (.slice (some ⟨W.heap.size, 0, none⟩) 2 2) (W.alloc (.cells #[.float .f64 0, .float .f64 0] 105)) := fun W => by kernel_rfl
  have e1 : fLt 0 4602678819172646912 = true := by decide
  have e2 : fLt 4602678819172646912 4607182418800017408 = true := by decide
  go_enter Try.func38, Try.ntmps38
  go_wp2_with fail
  refine wp_loop_rounds 3 ?_
  rw [rounds_succ]
  go_wp2_with fail
  rw [rounds_succ]
  go_wp2_with fail
  rw [rounds_succ]
  go_wp2_with fail
  have hT : Two (w.alloc (.cells #[.float .f64 4607182418800017408, .float .f64 4611686018427387904] 105)) (.slice (some ⟨w.heap.size, 0, none⟩) 2 2) :=
    ⟨_, 0, 2, rfl, Nat.le_refl _, (Blk.new w 105 #[.float .f64 4607182418800017408, .float .f64 4611686018427387904]).cell 0, (Blk.new w 105 #[.float .f64 4607182418800017408, .float .f64 4611686018427387904]).cell 1⟩
  have hW := Lib.hid ((Below.refl w.heap.size w).alloc (Nat.le_refl _) (.cells #[.float .f64 4607182418800017408, .float .f64 4611686018427387904] 105))
  refine (sorted_b hT).mono ?_
  rintro _ w1 ⟨u, rfl, ⟨g1, o1, c1, rfl, hc1, k0, k1⟩, hb⟩
  have hW1 := Lib.hid (hW.out.trans (hb.mono (by simp)))
  have hf1 : floatOfInt .f64 1 = 4607182418800017408 := by decide +kernel
  obtain ⟨m1, m1'⟩ := fres_of (show floatBits .mul .f64 4602678819172646912 4607182418800017408 = some 4602678819172646912 by decide +kernel)
  obtain ⟨s1, s1'⟩ := fres_of (show floatBits .sub .f64 4602678819172646912 0 = some 4602678819172646912 by decide +kernel)
  obtain ⟨s2, s2'⟩ := fres_of (show floatBits .sub .f64 4607182418800017408 4602678819172646912 = some 4602678819172646912 by decide +kernel)
  obtain ⟨m2, m2'⟩ := fres_of (show floatBits .mul .f64 4607182418800017408 4602678819172646912 = some 4602678819172646912 by decide +kernel)
  obtain ⟨m3, m3'⟩ := fres_of (show floatBits .mul .f64 4611686018427387904 4602678819172646912 = some 4607182418800017408 by decide +kernel)
  obtain ⟨a1, a1'⟩ := fres_of (show floatBits .add .f64 4602678819172646912 4607182418800017408 = some 4609434218613702656 by decide +kernel)
  have hci : ∀ W, (convert 36 3 (.float .f64 0)).run Try.prog W = .ok (.int .i64 0) W := fun W => by kernel_rfl
  have e3 : fEq 4602678819172646912 0 = false := by decide
  clear hb hT hW h0 h1 hmk e1 e2
  go_wp2_with (go_at_call 52; refine (floorh_b _).mono ?_; rintro e _ ⟨rfl, rfl⟩)
  have hw1 : IntKind.i64.wrap 1 = 1 := by decide
  refine wp_region_mixH (fun W' => W'.cell? ⟨g1, o1, none⟩ = some (.float .f64 4607182418800017408) ∧ W'.cell? ⟨g1, o1 + 1, none⟩ = some (.float .f64 4611686018427387904)) [3, 3, 3, 0, 3, 3, 3, 3, 0, 3, 3] (List.range 11) (by kernel_rfl) (by kernel_rfl) (fun _ _ h => h) ⟨k0, k1⟩ ?_
  repeat (first | ((first | refine wpMixH_pure rfl rfl (fun K hK => ?_) | refine wpMixH_loc rfl rfl (fun K hK => ?_) | refine wpMixH_any rfl rfl (fun K hK => ?_)); go_simp; refine hK _ _ ?_; clear hK K) | (refine wpMixH_any rfl rfl (fun K hK => ?_); rw [if_pos (by go_simp)]; apply Exists.intro; refine And.intro (fun w2 hS2 => ?_) (hK _ _ ?_); (focus (obtain ⟨hs0, hs1⟩ := hS2; go_simp; rfl)); clear hK K))
  refine wpMixH_nil (fun n2 => ?_)
  go_wp2
  go_ret2
  exact ⟨rfl, below_drewNs hW1.out _⟩
end Go.Proofs.Yteoebfjhadmnbaa
/- Histories, plain: an event in form, what is wrong with the next one, the state behind it. No program in sight. -/
namespace Go.Proofs.Yteoebfjhadmnbaa
set_option linter.unusedVariables false

structure Ev where
  th : Int
  kd : Int
  ad : Int
  wd : Int
  ow : Bool
  er : Int

def Ev.zero : Ev := ⟨0, 0, 0, 0, false, 0⟩
def pairK (k : Int) : Bool := k == 2 || k == 3 || k == 10 || k == 11
def singK (k : Int) : Bool := k == 1 || k == 4 || k == 6
/-- In form. -/
def fmd (e : Ev) : Bool :=
  decide (0 ≤ e.th) && decide (e.th < 8) && decide (1 ≤ e.kd) && decide (e.kd ≤ 12) && (pairK e.kd || e.ad == 0) && (pairK e.kd || singK e.kd || e.wd == 0) && (e.kd == 2 || !e.ow) &&
    (!(e.kd == 1 || e.kd == 4) || e.wd % 2 == 0) && (if e.kd = 9 then decide (4 ≤ e.er) && decide (e.er ≤ 6) else e.er == 0)

structure Tr where
  th : Int
  first : Nat
  last : Nat
  sn : Int
  how : Int
  rd : Nat
  wr : Nat
structure Th where
  how : Nat
  sn : Int
  ws : List (Int × Int)
  tr : Nat
structure St where
  th : Nat → Th
  num : Int
  hold : Int
  tries : List Tr

/-- How a thread is behind an event, and 1; 0: it may not have it. -/
def tb (how : Nat) (k : Int) : Nat :=
  if how = 0 then (if k = 1 then 2 else if k = 10 ∨ k = 11 then 1 else if k = 9 ∨ k = 12 then 4 else 0)
  else if how = 1 then (if k = 2 ∨ k = 3 ∨ k = 4 then 2 else if k = 5 then 3 else if k = 6 ∨ k = 7 ∨ k = 8 then 1 else if k = 9 then 4 else 0)
  else if how = 2 then (if k = 6 then 1 else 0)
  else 0
theorem tb_lt (how : Nat) (k : Int) : tb how k ≤ 4 := by
  unfold tb
  repeat' split
  all_goals omega

/-- The last word written at an address. -/
def written (l : List (Int × Int)) (a : Int) : Option Int := (l.reverse.find? fun p => p.1 == a).map (·.2)
theorem written_nil (a : Int) : written [] a = none := rfl
theorem written_snoc (l : List (Int × Int)) (p : Int × Int) (a : Int) : written (l ++ [p]) a = if p.1 = a then some p.2 else written l a := by
  unfold written
  rw [List.reverse_append, List.reverse_singleton, List.singleton_append, List.find?_cons]
  by_cases h : p.1 = a
  · simp [h]
  · rw [if_neg h, show (p.1 == a) = false by simpa using h]
theorem written_none {l : List (Int × Int)} : (∀ a, written l a = none) ↔ l = [] := by
  constructor
  · intro h
    cases hl : l.reverse with
    | nil => simpa using hl
    | cons p r =>
      have := h p.1
      unfold written at this
      rw [hl] at this
      simp at this
  · rintro rfl a
    rfl

def wordOk (t : Th) (num : Int) (e : Ev) : Bool :=
  if e.kd = 1 then e.wd == 2 * num
  else if e.kd = 4 then e.wd == 2 * num && decide (t.sn < e.wd)
  else if e.kd = 5 then t.sn == 2 * num
  else if e.kd = 6 then (if t.how = 2 then e.wd == num + 1 else e.wd == t.sn / 2)
  else true
def ownOk (t : Th) (e : Ev) : Bool :=
  if e.kd = 2 then (match written t.ws e.ad with | some x => e.ow && x == e.wd | none => !e.ow)
  else if e.kd = 5 then !t.ws.isEmpty
  else if e.kd = 6 then (decide (t.how = 2) || t.ws.isEmpty)
  else true
def lockK (k : Int) : Bool := k == 1 || k == 4 || k == 5

/-- What is wrong with the next event; lk: is the lock held by another one? -/
def wrg (t : Th) (num : Int) (lk : Bool) (e : Ev) : Int :=
  if fmd e = false then 201
  else if tb t.how e.kd = 0 ∨ (t.how = 0 ∧ e.kd = 9 ∧ e.er ≠ 4) then 230
  else if (lockK e.kd && lk) = true then 231
  else if wordOk t num e = false then 232
  else if ownOk t e = false then 233
  else 0
def wrong (s : St) (e : Ev) : Int := wrg (s.th e.th.toNat) s.num (decide (0 ≤ s.hold)) e

/-- The thread behind an event that can be. -/
def tkT (t : Th) (e : Ev) (n : Nat) : Th :=
  { how := tb t.how e.kd - 1
    sn := if e.kd = 1 ∨ e.kd = 4 then e.wd else t.sn
    ws := if e.kd = 1 then [] else if e.kd = 3 then t.ws ++ [(e.ad, e.wd)] else t.ws
    tr := if e.kd = 1 then n else t.tr }
def updT (x : Tr) (i : Nat) (e : Ev) : Tr :=
  { th := x.th, first := x.first, last := i
    sn := if e.kd = 1 ∨ e.kd = 4 then e.wd else x.sn
    how := if e.kd = 6 ∨ e.kd = 7 ∨ e.kd = 8 ∨ e.kd = 9 then e.kd else x.how
    rd := if e.kd = 2 ∧ e.ow = false then x.rd + 1 else x.rd
    wr := if e.kd = 3 then x.wr + 1 else x.wr }
def Tr.new (th : Int) (i : Nat) : Tr := ⟨th, i, 0, 0, 0, 0, 0⟩
def Tr.zero : Tr := ⟨0, 0, 0, 0, 0, 0, 0⟩
def modAt {α : Type} (l : List α) (i : Nat) (f : α → α) : List α := l.modify i f
def take (s : St) (i : Nat) (e : Ev) : St :=
  let k := e.th.toNat
  let t := s.th k
  let t' := tkT t e s.tries.length
  let l1 := if e.kd = 1 then s.tries ++ [Tr.new e.th i] else s.tries
  { th := fun j => if j = k then t' else s.th j
    num := if e.kd = 6 ∧ t.how = 2 then e.wd else s.num
    hold := if e.kd = 5 then e.th else if e.kd = 6 ∧ t.how = 2 then -1 else s.hold
    tries := if t.how ≠ 0 ∨ e.kd = 1 then l1.modify t'.tr (fun x => updT x i e) else l1 }
def St.zero : St := ⟨fun _ => ⟨0, 0, [], 0⟩, 0, -1, []⟩
def evAt (l : List Ev) (i : Nat) : Ev := l.getD i Ev.zero
/-- The state behind the first n events. -/
def rn (l : List Ev) : Nat → St
  | 0 => St.zero
  | i + 1 => take (rn l i) i (evAt l i)
/-- The first n events can be. -/
def okTo (l : List Ev) (n : Nat) : Prop := ∀ j, j < n → wrong (rn l j) (evAt l j) = 0
/-- What a look over a history answers: the first event that can't be, its error. -/
def oddIn (l : List Ev) : Nat → Nat → Int × Int
  | _, 0 => (-1, 0)
  | i, fuel + 1 => if wrong (rn l i) (evAt l i) = 0 then oddIn l (i + 1) fuel else (i, wrong (rn l i) (evAt l i))
def odd (l : List Ev) : Int × Int := oddIn l 0 l.length
theorem oddIn_ok {l : List Ev} : ∀ {fuel i : Nat}, (∀ j, i ≤ j → j < i + fuel → wrong (rn l j) (evAt l j) = 0) → oddIn l i fuel = (-1, 0)
  | 0, _, _ => rfl
  | fuel + 1, i, h => by
    unfold oddIn
    rw [if_pos (h i (Nat.le_refl _) (by omega))]
    exact oddIn_ok fun j h1 h2 => h j (by omega) (by omega)
theorem odd_ok {l : List Ev} (h : okTo l l.length) : odd l = (-1, 0) := oddIn_ok fun j _ h2 => h j (by omega)
theorem oddIn_bad {l : List Ev} : ∀ {fuel i n : Nat}, (∀ j, i ≤ j → j < n → wrong (rn l j) (evAt l j) = 0) → i ≤ n → n < i + fuel → wrong (rn l n) (evAt l n) ≠ 0 → oddIn l i fuel = ((n : Int), wrong (rn l n) (evAt l n))
  | 0, i, n, _, h1, h2, _ => by omega
  | fuel + 1, i, n, h, h1, h2, h3 => by
    unfold oddIn
    by_cases e : i = n
    · subst e
      rw [if_neg h3]
    · rw [if_pos (h i (Nat.le_refl _) (by omega))]
      exact oddIn_bad (fun j h1 h2 => h j (by omega) h2) (by omega) (by omega) h3
theorem odd_bad {l : List Ev} {n : Nat} (h : okTo l n) (hn : n < l.length) (h3 : wrong (rn l n) (evAt l n) ≠ 0) : odd l = ((n : Int), wrong (rn l n) (evAt l n)) :=
  oddIn_bad (fun j _ h2 => h j h2) (Nat.zero_le _) (by omega) h3
theorem okTo.succ {l : List Ev} {n : Nat} (h : okTo l n) (h1 : wrong (rn l n) (evAt l n) = 0) : okTo l (n + 1) := fun j hj => by
  by_cases e : j = n
  · subst e; exact h1
  · exact h j (by omega)
end Go.Proofs.Yteoebfjhadmnbaa
/- Events in memory: their cells; two events compared; events.formed by contract. -/
namespace Go.Proofs.Yteoebfjhadmnbaa
open Go.RowKit
set_option maxHeartbeats 4000000
set_option linter.unusedVariables false
set_option linter.unusedSimpArgs false

def encV (e : Ev) : List Value := [.int .i64 e.th, .int .i64 e.kd, .int .u64 e.ad, .int .u64 e.wd, .bool e.ow, .int .i64 e.er]
def evV (e : Ev) : Value := .agg #[.int .i64 e.th, .int .i64 e.kd, .int .u64 e.ad, .int .u64 e.wd, .bool e.ow, .int .i64 e.er]
theorem encV_len (e : Ev) : (encV e).length = 6 := rfl
theorem encV_one (e : Ev) : ∀ u ∈ encV e, u.oneCell' = true := by
  intro u hu
  simp only [encV, List.mem_cons, List.not_mem_nil, or_false] at hu
  rcases hu with rfl | rfl | rfl | rfl | rfl | rfl <;> rfl
theorem event_info : (Try.prog.info? 27).map (fun i => (i.zero, i.size, i.bytes)) = some (some (.agg #[.int .i64 0, .int .i64 0, .int .u64 0, .int .u64 0, .bool false, .int .i64 0]), 6, 48) := by kernel_rfl

/-- The numbers of an event are words of their kinds. -/
def EvWf (e : Ev) : Prop := (-9223372036854775808 ≤ e.th ∧ e.th ≤ 9223372036854775807) ∧ (-9223372036854775808 ≤ e.kd ∧ e.kd ≤ 9223372036854775807) ∧ (0 ≤ e.ad ∧ e.ad ≤ 18446744073709551615) ∧ (0 ≤ e.wd ∧ e.wd ≤ 18446744073709551615) ∧ (-9223372036854775808 ≤ e.er ∧ e.er ≤ 9223372036854775807)

def evq (a b : Ev) : Bool := a.th == b.th && a.kd == b.kd && a.ad == b.ad && a.wd == b.wd && a.ow == b.ow && a.er == b.er
theorem ev_equal (a b : Ev) (w : World) : (Op.equalIn 10000 27 (evV a) (evV b)).run Try.prog w = .ok (evq a b) w := by
  have h1 : Try.prog.underlying 27 = some _ := Try.underlying27
  have hi : ∀ (t : TypeId) (n m : Int) (k : IntKind) (d : Nat), Try.prog.underlying t = some (TypeDesc.int k) → (Op.equalIn (d + 1) t (.int k n) (.int k m)).run Try.prog w = .ok (n == m) w := fun t n m k d ht => run_equalIn_int w d t k k n m ht
  have hb : ∀ (t : TypeId) (n m : Bool) (d : Nat), Try.prog.underlying t = some TypeDesc.bool → (Op.equalIn (d + 1) t (.bool n) (.bool m)).run Try.prog w = .ok (n == m) w := fun t n m d ht => run_equalIn_bool w d t n m ht
  have hsi : Try.prog.stoodInHeld 27 = false := by kernel_rfl
  have u1 : Try.prog.underlying 3 = some _ := Try.underlying3
  have u2 : Try.prog.underlying 23 = some _ := Try.underlying23
  have u3 : Try.prog.underlying 24 = some _ := Try.underlying24
  have u4 : Try.prog.underlying 4 = some _ := Try.underlying4
  have u5 : Try.prog.underlying 25 = some _ := Try.underlying25
  have c1 : Try.prog.cellsOf 3 = 1 := by kernel_rfl
  have c2 : Try.prog.cellsOf 23 = 1 := by kernel_rfl
  have c3 : Try.prog.cellsOf 24 = 1 := by kernel_rfl
  have c4 : Try.prog.cellsOf 4 = 1 := by kernel_rfl
  have c5 : Try.prog.cellsOf 25 = 1 := by kernel_rfl
  have hd : 10000 = 9998 + 1 + 1 := rfl
  rw [hd]
  generalize 9998 = d at *
  obtain ⟨a0, a1, a2, a3, a4, a5⟩ := a
  obtain ⟨b0, b1, b2, b3, b4, b5⟩ := b
  unfold evV evq
  rw [Op.equalIn]
  simp [run_underlying h1, part, hi, hb, u1, u2, u3, u4, u5, c1, c2, c3, c4, c5, hsi, sizeOf, typeInfo]
  by_cases k0 : a0 = b0 <;> simp [k0]
  by_cases k1 : a1 = b1 <;> simp [k1]
  by_cases k2 : a2 = b2 <;> simp [k2]
  by_cases k3 : a3 = b3 <;> simp [k3]
  by_cases k4 : a4 = b4 <;> simp [k4]
  by_cases k5 : a5 = b5 <;> simp [k5]
theorem ev_eql (a b : Ev) (w : World) : (binOp .eql 27 (evV a) (evV b)).run Try.prog w = .ok (.bool (evq a b)) w := by
  have := run_eql_struct (P := Try.prog) w 27 #[.int .i64 a.th, .int .i64 a.kd, .int .u64 a.ad, .int .u64 a.wd, .bool a.ow, .int .i64 a.er] #[.int .i64 b.th, .int .i64 b.kd, .int .u64 b.ad, .int .u64 b.wd, .bool b.ow, .int .i64 b.er]
  have h2 := ev_equal a b w
  unfold evV at *
  rw [this, h2]
  rfl
theorem ev_neq (a b : Ev) (w : World) : (binOp .neq 27 (evV a) (evV b)).run Try.prog w = .ok (.bool (!evq a b)) w := by
  have := run_neq_struct (P := Try.prog) w 27 #[.int .i64 a.th, .int .i64 a.kd, .int .u64 a.ad, .int .u64 a.wd, .bool a.ow, .int .i64 a.er] #[.int .i64 b.th, .int .i64 b.kd, .int .u64 b.ad, .int .u64 b.wd, .bool b.ow, .int .i64 b.er]
  have h2 := ev_equal a b w
  unfold evV at *
  rw [this, h2]
  rfl

theorem u64_andNot1 (x : Int) (h0 : 0 ≤ x) (h1 : x ≤ 18446744073709551615) : bits .andNot .u64 x 1 = x - x % 2 := by
  obtain ⟨n, rfl⟩ := Int.eq_ofNat_of_zero_le h0
  have this : bits .andNot .u64 (n : Int) 1 = ((n &&& (18446744073709551615 - 1) : Nat) : Int) := u64_andNot_nat n 1 (by omega) (by omega)
  rw [this]
  have e : n &&& (18446744073709551615 - 1) = n - n % 2 := by
    apply Nat.eq_of_testBit_eq
    intro i
    rw [Nat.testBit_and]
    cases i with
    | zero =>
      have h1 : Nat.testBit (18446744073709551615 - 1) 0 = false := by decide
      have h2 : (n - n % 2).testBit 0 = false := by
        rw [Nat.testBit_zero]
        have : (n - n % 2) % 2 = 0 := by omega
        simp [this]
      rw [h1, h2, Bool.and_false]
    | succ i =>
      have h1 : Nat.testBit (18446744073709551615 - 1) (i + 1) = decide (i < 63) := by
        rw [Nat.testBit_succ, show (18446744073709551615 - 1) / 2 = 2 ^ 63 - 1 by decide, Nat.testBit_two_pow_sub_one]
      have h2 : (n - n % 2).testBit (i + 1) = n.testBit (i + 1) := by
        rw [Nat.testBit_succ, Nat.testBit_succ, show (n - n % 2) / 2 = n / 2 by omega]
      rw [h1, h2]
      by_cases hi : i < 63
      · simp [hi]
      · have : n.testBit (i + 1) = false := Nat.testBit_lt_two_pow (Nat.lt_of_lt_of_le (show n < 2 ^ 64 by omega) (Nat.pow_le_pow_right (by omega) (by omega)))
        simp [hi, this]
  rw [e]
  omega
end Go.Proofs.Yteoebfjhadmnbaa
/- events.formed by contract. -/
namespace Go.Proofs.Yteoebfjhadmnbaa
open Go.RowKit
set_option maxHeartbeats 4000000
set_option linter.unusedVariables false
set_option linter.unusedSimpArgs false
set_option maxRecDepth 100000 in
theorem formed_b (e : Ev) (w : World) (hw0 : 0 ≤ e.wd) (hw1 : e.wd ≤ 18446744073709551615) :
    Calls Try.prog 68 #[evV e] w fun x w' => x = .returned (.bool (fmd e)) ∧ Below w.heap.size w w' := by
  obtain ⟨th, kd, ad, wd, ow, er⟩ := e
  dsimp only at hw0 hw1
  have hq : ∀ (a0 a1 a2 a3 : Int) (a4 : Bool) (a5 b0 b1 b2 b3 : Int) (b4 : Bool) (b5 : Int) (w : World), (binOp .eql 27 (.agg #[.int .i64 a0, .int .i64 a1, .int .u64 a2, .int .u64 a3, .bool a4, .int .i64 a5]) (.agg #[.int .i64 b0, .int .i64 b1, .int .u64 b2, .int .u64 b3, .bool b4, .int .i64 b5])).run Try.prog w = .ok (.bool (evq ⟨a0, a1, a2, a3, a4, a5⟩ ⟨b0, b1, b2, b3, b4, b5⟩)) w := fun a0 a1 a2 a3 a4 a5 b0 b1 b2 b3 b4 b5 w => ev_eql ⟨a0, a1, a2, a3, a4, a5⟩ ⟨b0, b1, b2, b3, b4, b5⟩ w
  have hn := u64_andNot1 wd hw0 hw1
  have hbel : Below w.heap.size w (w.alloc (.cells #[.int .i64 th, .int .i64 kd, .int .u64 ad, .int .u64 wd, .bool ow, .int .i64 er] 27)) := (Below.refl _ _).alloc (Nat.le_refl _) _
  unfold evV
  dsimp only
  have hb2 : Below w.heap.size w ((w.alloc (.cells #[.int .i64 th, .int .i64 kd, .int .u64 ad, .int .u64 wd, .bool ow, .int .i64 er] 27)).alloc (.cells #[.int .i64 th, .int .i64 kd, .int .u64 0, .int .u64 0, .bool false, .int .i64 0] 27)) := hbel.alloc (by simp) _
  have hz : ∀ (k : Int) (cs : Array Value), Blk ((w.alloc (.cells #[.int .i64 th, .int .i64 k, .int .u64 ad, .int .u64 wd, .bool ow, .int .i64 er] 27)).alloc (.cells cs 27)) w.heap.size 27 #[.int .i64 th, .int .i64 k, .int .u64 ad, .int .u64 wd, .bool ow, .int .i64 er] := fun k cs => Blk.alloc (Blk.new w _ _) _
  replace hz := Lib.hid hz
  have hb2' : ∀ b : Bool, Below w.heap.size w ((w.alloc (.cells #[.int .i64 th, .int .i64 kd, .int .u64 ad, .int .u64 wd, .bool ow, .int .i64 er] 27)).alloc (.cells #[.int .i64 th, .int .i64 kd, .int .u64 0, .int .u64 0, .bool b, .int .i64 0] 27)) := fun b => hbel.alloc (by simp) _
  replace hb2' := Lib.hid hb2'
  by_cases hth : th < 0
  · go_enter Try.func68, Try.ntmps68
    go_wp2
    all_goals go_ret
    all_goals exact ⟨by simp [fmd]; omega, hbel⟩
  by_cases hth8 : 8 ≤ th
  · go_enter Try.func68, Try.ntmps68
    go_wp2
    all_goals go_ret
    all_goals exact ⟨by simp [fmd]; omega, hbel⟩
  have hk : kd = 1 ∨ kd = 2 ∨ kd = 3 ∨ kd = 4 ∨ kd = 5 ∨ kd = 6 ∨ kd = 7 ∨ kd = 8 ∨ kd = 9 ∨ kd = 10 ∨ kd = 11 ∨ kd = 12 ∨ kd < 1 ∨ 12 < kd := by omega
  rcases hk with rfl | rfl | rfl | rfl | rfl | rfl | rfl | rfl | rfl | rfl | rfl | rfl | hk | hk
  case inr.inr.inr.inr.inr.inr.inr.inr.inl =>
    by_cases h4 : er < 4
    · go_enter Try.func68, Try.ntmps68
      go_wp2
      go_ret
      exact ⟨by simp [fmd, pairK, singK]; omega, hb2⟩
    by_cases h6 : 6 < er
    · go_enter Try.func68, Try.ntmps68
      go_wp2
      go_ret
      exact ⟨by simp [fmd, pairK, singK]; omega, hb2⟩
    go_enter Try.func68, Try.ntmps68
    go_wp2
    go_ret
    refine ⟨ret_bool ?_, ?_⟩
    · rw [Bool.eq_iff_iff]
      cases ow <;> simp [fmd, evq, pairK, singK] <;> omega
    · exact (((Below.refl _ _).alloc (Nat.le_refl _) _).alloc (by simp) _)
  case inr.inr.inr.inr.inr.inr.inr.inr.inr.inr.inr.inr.inl | inr.inr.inr.inr.inr.inr.inr.inr.inr.inr.inr.inr.inr =>
    have k1 : (kd == 1) = false := by simp; omega
    have k2 : (kd == 2) = false := by simp; omega
    have k3 : (kd == 3) = false := by simp; omega
    have k4 : (kd == 4) = false := by simp; omega
    have k5 : (kd == 5) = false := by simp; omega
    have k6 : (kd == 6) = false := by simp; omega
    have k7 : (kd == 7) = false := by simp; omega
    have k8 : (kd == 8) = false := by simp; omega
    have k9 : (kd == 9) = false := by simp; omega
    have k10 : (kd == 10) = false := by simp; omega
    have k11 : (kd == 11) = false := by simp; omega
    have k12 : (kd == 12) = false := by simp; omega
    go_enter Try.func68, Try.ntmps68
    go_wp2
    go_ret
    exact ⟨by simp [fmd]; omega, hb2⟩
  case inr.inl | inr.inr.inl | inr.inr.inr.inr.inr.inr.inr.inr.inr.inl | inr.inr.inr.inr.inr.inr.inr.inr.inr.inr.inl =>
    go_enter Try.func68, Try.ntmps68
    go_wp2
    refine wp_region_mix (fun W' => W'.cell? ⟨w.heap.size, 2, none⟩ = some (.int .u64 ad) ∧ W'.cell? ⟨w.heap.size, 3, none⟩ = some (.int .u64 wd)) [3, 0, 3, 0, 3, 2, 3, 2] (List.range 8) (by kernel_rfl) (by kernel_rfl) (fun _ _ h => h) ⟨((hz.out _ _).cell 2).trans rfl, ((hz.out _ _).cell 3).trans rfl⟩ ?_
    repeat (first | ((first | refine wpMix_pure rfl rfl (fun K hK => ?_) | refine wpMix_loc rfl rfl (fun K hK => ?_) | refine wpMix_any rfl rfl (fun K hK => ?_)); go_simp; refine hK _ _ ?_; clear hK K) | (refine wpMix_any rfl rfl (fun K hK => ?_); rw [if_pos (by go_simp)]; apply Exists.intro; refine And.intro (fun w2 hS2 => ?_) (hK _ _ ?_); (focus (obtain ⟨hs1, hs2⟩ := hS2; go_simp; rfl)); clear hK K))
    refine wpMix_loud rfl rfl (fun m1 K hK => ?_)
    go_wp2
    refine hK _ _ (fun _ => ⟨(((hz.out _ _).far (p := ⟨w.heap.size + 1, 2, none⟩) (Nat.ne_of_lt (Nat.lt_succ_self _)) _).cell 2).trans rfl, (((hz.out _ _).far (p := ⟨w.heap.size + 1, 2, none⟩) (Nat.ne_of_lt (Nat.lt_succ_self _)) _).cell 3).trans rfl⟩) ?_; clear hK K
    repeat (first | ((first | refine wpMix_pure rfl rfl (fun K hK => ?_) | refine wpMix_loc rfl rfl (fun K hK => ?_) | refine wpMix_any rfl rfl (fun K hK => ?_)); go_simp; refine hK _ _ ?_; clear hK K) | (refine wpMix_any rfl rfl (fun K hK => ?_); rw [if_pos (by go_simp)]; apply Exists.intro; refine And.intro (fun w2 hS2 => ?_) (hK _ _ ?_); (focus (obtain ⟨hs1, hs2⟩ := hS2; go_simp; rfl)); clear hK K))
    refine wpMix_loud rfl rfl (fun m2 K hK => ?_)
    go_wp2
    refine hK _ _ (fun _ => ⟨((((hz.out _ _).far (p := ⟨w.heap.size + 1, 2, none⟩) (Nat.ne_of_lt (Nat.lt_succ_self _)) _).far (p := ⟨w.heap.size + 1, 3, none⟩) (Nat.ne_of_lt (Nat.lt_succ_self _)) _).cell 2).trans rfl, ((((hz.out _ _).far (p := ⟨w.heap.size + 1, 2, none⟩) (Nat.ne_of_lt (Nat.lt_succ_self _)) _).far (p := ⟨w.heap.size + 1, 3, none⟩) (Nat.ne_of_lt (Nat.lt_succ_self _)) _).cell 3).trans rfl⟩) ?_; clear hK K
    refine wpMix_nil (fun m3 => ?_)
    go_wp2
    go_ret
    refine ⟨ret_bool ?_, ?_⟩
    · rw [Bool.eq_iff_iff]
      cases ow <;> simp [fmd, evq, pairK, singK] <;> omega
    · exact below_drewNs (Below.setCell (below_drewNs (Below.setCell (below_drewNs (hb2'.out _) _) (Nat.le_succ _) _) _) (Nat.le_succ _) _) _
  all_goals
    go_enter Try.func68, Try.ntmps68
    go_wp2
    go_ret
    refine ⟨ret_bool ?_, ?_⟩
    · rw [Bool.eq_iff_iff]
      cases ow <;> simp [fmd, evq, pairK, singK] <;> omega
    · exact (((Below.refl _ _).alloc (Nat.le_refl _) _).alloc (by simp) _)
end Go.Proofs.Yteoebfjhadmnbaa
