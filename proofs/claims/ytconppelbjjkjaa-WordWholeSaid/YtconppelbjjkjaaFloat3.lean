/- Plain facts on doubles: words rounded to 53 digits; products of whole doubles. -/
import Derived.Test.YtconppelbjjkjaaFloat2
import Derived.Laws.FloatArith
namespace Go.Proofs.Ytconppelbjjkjaa
open Ieee

/-- binary digits of a word of 64 beyond 53 -/
def over (m : Nat) : Nat := m.log2 - 52
/-- what is kept of it: its first 53 digits, rounded to the nearest, even between two -/
def kept (m : Nat) : Nat := m / 2 ^ over m + (decide (2 ^ over m < 2 * (m % 2 ^ over m)) || 2 ^ over m == 2 * (m % 2 ^ over m) && m / 2 ^ over m % 2 == 1).toNat

theorem over_le (m : Nat) (hm : m < 18446744073709551616) : over m ≤ 11 := by
  unfold over
  by_cases h : m = 0
  · subst h; decide
  · have := (Nat.log2_lt h).2 (show m < 2 ^ 64 by omega); omega

theorem head_lt (m : Nat) : m / 2 ^ over m < 9007199254740992 := by
  rw [Nat.div_lt_iff_lt_mul (Nat.two_pow_pos _), show (9007199254740992 : Nat) = 2 ^ 53 from rfl, ← Nat.pow_add]
  have h : m < 2 ^ (m.log2 + 1) := Nat.lt_log2_self
  exact Nat.lt_of_lt_of_le h (Nat.pow_le_pow_right (by omega) (by unfold over; omega))
theorem head_ge (m : Nat) (h0 : over m ≠ 0) : 4503599627370496 ≤ m / 2 ^ over m := by
  have hm : m ≠ 0 := by intro h; subst h; exact h0 (by decide)
  rw [Nat.le_div_iff_mul_le (Nat.two_pow_pos _), show (4503599627370496 : Nat) = 2 ^ 52 from rfl, ← Nat.pow_add, show 52 + over m = m.log2 by unfold over at *; omega]
  exact Nat.log2_self_le hm
/-- while fewer digits are taken off, more than 53 are left -/
theorem head_more (m j : Nat) (hj : j < over m) : 9007199254740992 ≤ m / 2 ^ j := by
  have hm : m ≠ 0 := by intro h; subst h; simp [over] at hj
  rw [Nat.le_div_iff_mul_le (Nat.two_pow_pos _), show (9007199254740992 : Nat) = 2 ^ 53 from rfl, ← Nat.pow_add]
  exact Nat.le_trans (Nat.pow_le_pow_right (by omega) (by unfold over at hj; omega)) (Nat.log2_self_le hm)

theorem kept_le (m : Nat) : kept m ≤ 9007199254740992 := by
  have := head_lt m
  have hb : ∀ b : Bool, b.toNat ≤ 1 := fun b => by cases b <;> decide
  unfold kept
  have := hb (decide (2 ^ over m < 2 * (m % 2 ^ over m)) || 2 ^ over m == 2 * (m % 2 ^ over m) && m / 2 ^ over m % 2 == 1)
  omega

theorem cut_even (s : Bool) (m : Nat) (h : over m ≤ m.log2 + 2) : Toward.even.cut s m (over m) = kept m := by
  unfold Toward.cut kept
  rw [Nat.min_eq_left h, Nat.shiftLeft_eq, Nat.one_mul]

/-- EVERY WORD AS A DOUBLE: its first 53 digits, rounded, at their place. -/
theorem write_word (s : Bool) (m : Nat) (h0 : m ≠ 0) (hm : m < 18446744073709551616) :
    ∃ r, r < 9218868437227405312 ∧ mg r = kept m * 2 ^ over m * unit1 ∧ double.write (.number s m 0) = double.word s r := by
  have hp := place1_eq
  have hlog := (Nat.log2_lt h0).2 (show m < 2 ^ 64 by omega)
  by_cases ho : over m = 0
  · have hk : kept m = m := by
      unfold kept; rw [ho]
      have : m % 2 ^ 0 = 0 := by omega
      rw [this]; simp
    have hs : m ≤ 9007199254740992 := by
      have := head_lt m; rw [ho] at this; simp at this; omega
    obtain ⟨r, r1, r2, r3⟩ := write_int s m hs
    refine ⟨r, r1, ?_, r3⟩
    rw [hk, ho, Nat.pow_zero, Nat.mul_one]; exact r2
  · have hov : m.log2 = over m + 52 := by unfold over at *; omega
    have h1 := head_ge m ho
    have h2 := kept_le m
    have h3 : 4503599627370496 ≤ kept m := Nat.le_trans h1 (Nat.le_add_right _ _)
    have ho11 := over_le m hm
    refine ⟨(over m + place1) * 4503599627370496 + kept m, by omega, ?_, ?_⟩
    · rw [mg_rung _ _ h3 h2, Nat.mul_assoc, unit1, ← Nat.pow_add]
    · show double.nearest s m 0 = _
      unfold Format.nearest
      rw [if_neg h0]
      have hfb : (double.fractionBits : Int) = 52 := rfl
      have hlp : double.leastPlace = -1074 := rfl
      have hbi : double.binade = 4503599627370496 := rfl
      have hin : double.infRung = 9218868437227405312 := rfl
      simp only [hfb, hlp, hbi, hin]
      have hlast : max (0 + (m.log2 : Int) - 52) (-1074) = (over m : Int) := by omega
      rw [hlast]
      have e1 : ((0 : Int) - (over m : Int)).toNat = 0 := by omega
      have e2 : ((over m : Int) - 0).toNat = over m := by omega
      have e3 : ((over m : Int) - -1074).toNat = over m + place1 := by omega
      rw [e1, e2, e3, Nat.shiftLeft_zero, cut_even s m (by omega), Nat.min_eq_left (by omega)]

theorem expOf_ge (r c : Nat) (hc : c ≠ 0) (h : mg r = c * unit1) : 1022 ≤ expOf r := by
  have hp := place1_eq
  by_cases hh : 1022 ≤ expOf r
  · exact hh
  · exfalso
    rw [mg_eq] at h
    have h1 : magOf r * 2 ^ expOf r < 2 ^ 53 * 2 ^ expOf r := Nat.mul_lt_mul_of_pos_right (magOf_lt r) (Nat.two_pow_pos _)
    rw [← Nat.pow_add] at h1
    have h2 : 2 ^ (53 + expOf r) ≤ unit1 := Nat.pow_le_pow_right (by omega) (by omega)
    have h3 : unit1 ≤ c * unit1 := Nat.le_mul_of_pos_left _ (by omega)
    omega

theorem four_mul (m1 m2 e1 e2 c d u : Nat) (v1 : m1 * e1 = c * u) (v2 : m2 * e2 = d * u) : m1 * m2 * (e1 * e2) = c * d * u * u := by
  calc m1 * m2 * (e1 * e2) = (m1 * e1) * (m2 * e2) := by ac_rfl
    _ = (c * u) * (d * u) := by rw [v1, v2]
    _ = c * d * u * u := by ac_rfl

/-- THE PRODUCT OF TWO WHOLE DOUBLES THAT IS A RUNG'S OWN. -/
theorem mul_whole (r1 r2 r c d : Nat) (h1 : r1 < 9218868437227405312) (h2 : r2 < 9218868437227405312) (h : r < 9218868437227405312)
    (hd : d ≠ 0) (v1 : mg r1 = c * unit1) (v2 : mg r2 = d * unit1) (v : mg r = c * d * unit1) :
    double.mul (double.word false r1) (double.word false r2) = some (double.word false r) := by
  have hp := place1_eq
  obtain ⟨p1, p2, p3⟩ := word_parts false r1 (by omega)
  obtain ⟨q1, q2, q3⟩ := word_parts false r2 (by omega)
  unfold Format.mul
  rw [read_num _ (by rw [p1]; exact h1), read_num _ (by rw [q1]; exact h2), p1, p2, q1, q2]
  show some (double.nearest _ _ _) = some _
  congr 1
  by_cases hc : c = 0
  · subst hc
    have m0 : mg 0 = 0 := rfl
    have e1 : r1 = 0 := mg_inj (by rw [v1, Nat.zero_mul, m0])
    have e : r = 0 := mg_inj (by rw [v, Nat.zero_mul, Nat.zero_mul, m0])
    clear v1 v v2
    subst e1 e
    have : magOf 0 * magOf r2 = 0 := by rw [show magOf 0 = 0 from rfl, Nat.zero_mul]
    rw [this]
    unfold Format.nearest; rw [if_pos rfl]; simp
  · have g1 := expOf_ge r1 c hc v1
    have g2 := expOf_ge r2 d hd v2
    refine nearest_exact _ _ _ (expOf r1 + expOf r2 - place1) r (by omega) h ?_
    have hu : 0 < 2 ^ place1 := Nat.two_pow_pos _
    refine Nat.eq_of_mul_eq_mul_right hu ?_
    rw [Nat.mul_assoc, ← Nat.pow_add, Nat.sub_add_cancel (by omega), Nat.pow_add, v]
    rw [mg_eq] at v1 v2
    have hU : unit1 = 2 ^ place1 := by rw [unit1]
    rw [← hU]
    exact four_mul _ _ _ _ _ _ _ v1 v2

/-- a whole number as a double -/
def ofNum (x : Int) : Nat := double.write (.number (x < 0) x.natAbs 0)

theorem kept_zero : kept 0 = 0 := by decide
theorem over_zero : over 0 = 0 := by decide

theorem kept_exact (m : Nat) : kept m * 2 ^ over m = m ↔ m % 2 ^ over m = 0 := by
  constructor
  · intro h
    have := Nat.mul_mod_left (kept m) (2 ^ over m)
    rw [h] at this; exact this
  · intro h
    have hp := Nat.two_pow_pos (over m)
    unfold kept
    rw [h]
    have e : (decide (2 ^ over m < 2 * 0) || 2 ^ over m == 2 * 0 && m / 2 ^ over m % 2 == 1) = false := by
      simp
    rw [e]
    have := Nat.div_add_mod m (2 ^ over m)
    rw [h] at this
    simp only [Bool.toNat_false, Nat.add_zero] at this ⊢
    rw [Nat.mul_comm]; exact this

theorem ofNum_word (x : Int) (h1 : -9223372036854775808 ≤ x) (h2 : x ≤ 18446744073709551615) :
    ∃ r, r < 9218868437227405312 ∧ mg r = kept x.natAbs * 2 ^ over x.natAbs * unit1 ∧ ofNum x = double.word (decide (x < 0)) r := by
  by_cases h0 : x = 0
  · subst h0
    refine ⟨0, by decide, ?_, by decide⟩
    have e : (0 : Int).natAbs = 0 := rfl
    rw [e, kept_zero, Nat.zero_mul, Nat.zero_mul]; rfl
  · exact write_word _ x.natAbs (by omega) (by omega)

theorem whole_word (s : Bool) (r v : Nat) (hr : r < 9218868437227405312) (hv : mg r = v * unit1) :
    fin (double.word s r) = true ∧ isWhole (double.word s r) = true ∧ truncI (double.word s r) = sg s v := by
  obtain ⟨q1, q2, q3⟩ := fv_word s r hr
  obtain ⟨p1, p2, p3⟩ := word_parts s r (by omega)
  have hw : isWhole (double.word s r) = true := by
    unfold isWhole; rw [p1, hv, Nat.mul_mod_left]; rfl
  refine ⟨q2, hw, ?_⟩
  have h := trunc_whole _ hw
  rw [q1, hv, sg_mul] at h
  exact ((mul_eq_u _ _).1 h).symm

theorem sg_abs (x : Int) : sg (decide (x < 0)) x.natAbs = x := by
  unfold sg; by_cases h : x < 0 <;> simp [h] <;> omega

/-- is a whole number a double's own? -/
def nearIs (x : Int) : Bool := decide (x.natAbs % 2 ^ over x.natAbs = 0)

theorem near_law (x : Int) (h1 : -9223372036854775808 ≤ x) (h2 : x ≤ 9223372036854775807) :
    (wholeIs (ofNum x) && (wholeOf (ofNum x) == x)) = nearIs x ∧ ofNum x < 18446744073709551616 ∧ (nearIs x = true → wholeIs (ofNum x) = true ∧ wholeOf (ofNum x) = x) ∧ (wholeIs (ofNum x) = true → nearIs x = false → (wholeOf (ofNum x) == x) = false) := by
  obtain ⟨r, r1, r2, r3⟩ := ofNum_word x h1 (by omega)
  obtain ⟨w1, w2, w3⟩ := whole_word (decide (x < 0)) r _ r1 r2
  have lt := (fv_word (decide (x < 0)) r r1).2.2
  rw [← r3] at w1 w2 w3 lt
  have yes : nearIs x = true → wholeIs (ofNum x) = true ∧ wholeOf (ofNum x) = x := by
    intro hn
    have he := (kept_exact x.natAbs).2 (of_decide_eq_true hn)
    rw [he, sg_abs] at w3
    have hi : wholeIs (ofNum x) = true := by
      unfold wholeIs; rw [w1, w2, w3]
      have k1 : -9223372036854775808 ≤ x := h1
      have k2 : x < 9223372036854775808 := by omega
      simp [k1, k2]
    exact ⟨hi, by unfold wholeOf; rw [if_pos hi, w3]⟩
  have no : nearIs x = false → wholeIs (ofNum x) = true → (wholeOf (ofNum x) == x) = false := by
    intro hn hi
    have hne := of_decide_eq_false hn
    rw [← kept_exact] at hne
    rw [beq_eq_false_iff_ne]
    intro h
    unfold wholeOf at h
    rw [if_pos hi, w3] at h
    apply hne
    have := congrArg Int.natAbs h
    rwa [sg_neg_abs] at this
  refine ⟨?_, lt, yes, fun a b => no b a⟩
  cases hn : nearIs x with
  | true =>
    obtain ⟨y1, y2⟩ := yes hn
    rw [y1, y2]; simp
  | false =>
    cases hi : wholeIs (ofNum x) with
    | false => rfl
    | true => rw [no hn hi]; rfl

theorem ofNum_nat (c : Nat) : ofNum (c : Int) = double.write (.number false c 0) := by
  unfold ofNum
  have : decide ((c : Int) < 0) = false := by simp
  rw [this]; rfl

theorem neg_word (r : Nat) (h : r < 9223372036854775808) : Go.Op.negFloat .f64 (double.word false r) = double.word true r := by
  have e : Go.Op.negFloat .f64 (double.word false r) = r ^^^ 2 ^ 63 := rfl
  rw [e, word_eq]
  have h1 : (r ^^^ 2 ^ 63) / 2 ^ 63 = 1 := by rw [Nat.xor_div_two_pow, Nat.div_self (by decide), Nat.div_eq_of_lt (by omega)]; rfl
  have h2 : (r ^^^ 2 ^ 63) % 2 ^ 63 = r := by rw [Nat.xor_mod_two_pow, Nat.mod_self, Nat.mod_eq_of_lt (by omega)]; simp
  simp only [if_true]
  omega

/-- the document's way to the nearest: head by unit, as doubles -/
theorem halving (x : Int) (h1 : -9223372036854775808 ≤ x) (h2 : x ≤ 9223372036854775807) :
    ∃ p, Go.floatBits .mul .f64 (ofNum (kept x.natAbs : Nat)) (ofNum ((2 ^ over x.natAbs : Nat) : Int)) = some p ∧ (¬ x < 0 → p = ofNum x) ∧ (x < 0 → Go.Op.negFloat .f64 p = ofNum x) := by
  obtain ⟨r, r1, r2, r3⟩ := ofNum_word x h1 (by omega)
  have ho := over_le x.natAbs (by omega)
  obtain ⟨a, a1, a2, a3⟩ := write_int false (kept x.natAbs) (kept_le _)
  have hd : 2 ^ over x.natAbs ≤ 9007199254740992 := by
    calc 2 ^ over x.natAbs ≤ 2 ^ 11 := Nat.pow_le_pow_right (by omega) ho
      _ ≤ _ := by decide
  obtain ⟨b, b1, b2, b3⟩ := write_int false (2 ^ over x.natAbs) hd
  refine ⟨double.word false r, ?_, ?_, ?_⟩
  · rw [ofNum_nat, ofNum_nat, a3, b3]
    exact mul_whole a b r _ _ a1 b1 r1 (by have := Nat.two_pow_pos (over x.natAbs); omega) a2 b2 r2
  · intro h; rw [r3]; simp [h]
  · intro h; rw [r3, neg_word r (by omega)]; simp [h]
end Go.Proofs.Ytconppelbjjkjaa
