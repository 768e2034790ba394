/- Plain facts on doubles: half of a whole one, and a half more. -/
import Derived.Test.YtconppelbjjkjaaFloat3
namespace Go.Proofs.Ytconppelbjjkjaa
open Ieee

def place2 : Nat := 1073
def half1 : Nat := 2 ^ place2
theorem place2_eq : place2 = 1073 := rfl
theorem half_two : half1 * 2 = unit1 := by
  have e : place1 = place2 + 1 := rfl
  rw [half1, unit1, e, Nat.pow_add, Nat.pow_one]
theorem four_half (m a k e n h : Nat) (ht : m * e = n * h * 2) (hk : a = k * 4) : 2 * (m * k) * e = n * h * a := by
  calc 2 * (m * k) * e = (m * e) * (k * 2) := by ac_rfl
    _ = n * h * 2 * (k * 2) := by rw [ht]
    _ = n * h * (k * (2 * 2)) := by ac_rfl
    _ = n * h * a := by rw [hk]
theorem int_half (c : Int) (h u : Nat) (e : h * 2 = u) : c * 2 * (h : Int) = c * (u : Int) := by
  have : ((h * 2 : Nat) : Int) = u := by rw [e]
  rw [← this, Int.mul_assoc]; congr 1; simp; omega

/-- half of a whole double -/
theorem half_of (n : Int) (h1 : -9007199254740992 < n) (h2 : n < 9007199254740992) :
    ∃ s r, r < 9218868437227405312 ∧ sg s (mg r) = n * half1 ∧ Go.floatBits .quo .f64 (ofNum n) 4611686018427387904 = some (double.word s r) := by
  have hp := place1_eq
  have hp2 := place2_eq
  obtain ⟨r, r1, r2, r3⟩ := ofNum_word n (by omega) (by omega)
  have hov : over n.natAbs = 0 := by
    unfold over
    by_cases h0 : n.natAbs = 0
    · rw [h0]; decide
    · have := (Nat.log2_lt h0).2 (show n.natAbs < 2 ^ 53 by omega); omega
  have hk : kept n.natAbs * 2 ^ over n.natAbs = n.natAbs := (kept_exact _).2 (by rw [hov]; omega)
  rw [hk] at r2
  obtain ⟨q, q1, q2⟩ := ex_rung n.natAbs place2 (by omega) (by omega)
  refine ⟨decide (n < 0), q, q1, ?_, ?_⟩
  · have e : mg q = n.natAbs * half1 := by rw [q2, half1]
    rw [e, sg_mul, sg_abs]
  · rw [r3]
    obtain ⟨p1, p2, p3⟩ := word_parts (decide (n < 0)) r (by omega)
    show double.div _ _ = _
    unfold Format.div
    rw [read_num _ (by rw [p1]; exact r1), p1, p2]
    have hy : double.read 4611686018427387904 = .number false 4503599627370496 (-51) := by decide
    rw [hy]
    have hfb : double.fractionBits = 52 := rfl
    rw [hfb]
    have hlog : Nat.log2 4503599627370496 = 52 := by decide
    have hm := magOf_lt r
    have hl2 : (magOf r).log2 ≤ 52 := by
      by_cases h0 : magOf r = 0
      · rw [h0]; decide
      · have := (Nat.log2_lt h0).2 (show magOf r < 2 ^ 53 by omega); omega
    simp only [Datum.quotient, hlog, Option.map]
    rw [if_neg (by decide)]
    simp only [Nat.shiftLeft_eq]
    obtain ⟨k, hk⟩ : ∃ k, 52 + 2 + 52 - (magOf r).log2 = 52 + k := ⟨52 + 2 + 52 - (magOf r).log2 - 52, by omega⟩
    rw [hk, Nat.pow_add, show (2 : Nat) ^ 52 = 4503599627370496 from rfl, show magOf r * (4503599627370496 * 2 ^ k) = magOf r * 2 ^ k * 4503599627370496 by ac_rfl, Nat.mul_div_cancel _ (by decide), Nat.mul_mod_left]
    simp only [bne_self_eq_false, Bool.toNat_false, Nat.add_zero, Bool.xor_false]
    show some (double.nearest _ _ _) = some _
    congr 1
    by_cases hn : n = 0
    · subst hn
      have e0 : r = 0 := mg_inj (by rw [r2]; rw [show (0 : Int).natAbs = 0 from rfl, Nat.zero_mul]; rfl)
      have e1 : q = 0 := mg_inj (by rw [q2]; rw [show (0 : Int).natAbs = 0 from rfl, Nat.zero_mul]; rfl)
      subst e0 e1
      have : 2 * (magOf 0 * 2 ^ k) = 0 := by rw [show magOf 0 = 0 from rfl, Nat.zero_mul]
      rw [this]; unfold Format.nearest; rw [if_pos rfl]
    · have g := expOf_ge r n.natAbs (by omega) r2
      refine nearest_exact _ _ _ (expOf r - k - 2) q (by omega) q1 ?_
      have hu : 0 < 2 ^ (k + 2) := Nat.two_pow_pos _
      refine Nat.eq_of_mul_eq_mul_right hu ?_
      rw [Nat.mul_assoc, ← Nat.pow_add, show expOf r - k - 2 + (k + 2) = expOf r by omega, q2]
      rw [mg_eq] at r2
      have h4 : (2 : Nat) ^ (k + 2) = 2 ^ k * 4 := by rw [Nat.pow_add]
      refine four_half _ _ _ _ _ _ ?_ h4
      rw [r2, Nat.mul_assoc, ← half1, half_two]

theorem mg_half : mg 4602678819172646912 = half1 := by
  rw [mg_eq]
  have e1 : magOf 4602678819172646912 = 2 ^ 52 := by decide
  have e2 : expOf 4602678819172646912 = place2 - 52 := by decide
  rw [e1, e2, ← Nat.pow_add, half1, show 52 + (place2 - 52) = place2 from rfl]

/-- and a half of one more -/
theorem half_more (n : Int) (h1 : -9007199254740992 < n) (h2 : n < 9007199254740992) (s : Bool) (r : Nat) (hr : r < 9218868437227405312) (hv : sg s (mg r) = n * half1) :
    ∃ t q, q < 9218868437227405312 ∧ sg t (mg q) = (n + 1) * half1 ∧ Go.floatBits .add .f64 (double.word s r) 4602678819172646912 = some (double.word t q) := by
  have hp2 := place2_eq
  obtain ⟨q, q1, q2⟩ := ex_rung (n + 1).natAbs place2 (by omega) (by omega)
  obtain ⟨p1, p2, p3⟩ := word_parts s r (by omega)
  have hy : double.read 4602678819172646912 = .number false (magOf 4602678819172646912) (-1074 + (expOf 4602678819172646912 : Nat)) := by decide
  have e2 : expOf 4602678819172646912 = 1021 := by decide
  refine ⟨decide (n + 1 < 0), q, q1, ?_, ?_⟩
  · have e : mg q = (n + 1).natAbs * half1 := by rw [q2, half1]
    rw [e, sg_mul, sg_abs]
  · show double.add _ _ = _
    unfold Format.add
    rw [read_num _ (by rw [p1]; exact hr), p1, p2, hy]
    simp only [Datum.sum, Option.map]
    show some (double.nearest _ _ _) = some _
    congr 1
    generalize hm : min (-1074 + (expOf r : Int)) (-1074 + (expOf 4602678819172646912 : Int)) = base
    obtain ⟨u, hu⟩ : ∃ u : Nat, base = -1074 + (u : Int) ∧ u ≤ expOf r ∧ u ≤ expOf 4602678819172646912 := ⟨min (expOf r) (expOf 4602678819172646912), by omega⟩
    obtain ⟨hu, hu1, hu2⟩ := hu
    have e3 : (-1074 + (expOf r : Int) - base).toNat = expOf r - u := by omega
    have e4 : (-1074 + (expOf 4602678819172646912 : Int) - base).toNat = expOf 4602678819172646912 - u := by omega
    rw [e3, e4]
    have t1 := signed_scale s (magOf r) (expOf r) u hu1
    have t2 := signed_scale false (magOf 4602678819172646912) (expOf 4602678819172646912) u hu2
    rw [← mg_eq] at t1 t2
    rw [hv] at t1
    rw [mg_half] at t2
    generalize signed s (magOf r) (expOf r - u) = A at t1 ⊢
    generalize signed false (magOf 4602678819172646912) (expOf 4602678819172646912 - u) = B at t2 ⊢
    have t2' : B * ((2 ^ u : Nat) : Int) = half1 := t2
    have hh : 0 < half1 := Nat.two_pow_pos _
    have hk : 0 < 2 ^ u := Nat.two_pow_pos _
    have tot : (A + B) * ((2 ^ u : Nat) : Int) = (n + 1) * half1 := by rw [Int.add_mul, t1, t2', Int.add_mul]; omega
    have hsign : (if A + B = 0 then s && false else decide (A + B < 0)) = decide (n + 1 < 0) := by
      have i1 : A + B < 0 ↔ n + 1 < 0 := by
        have a1 : (A + B) * ((2 ^ u : Nat) : Int) < 0 * ((2 ^ u : Nat) : Int) ↔ A + B < 0 := Int.mul_lt_mul_right (by omega)
        have a2 : (n + 1) * (half1 : Int) < 0 * (half1 : Int) ↔ n + 1 < 0 := Int.mul_lt_mul_right (by omega)
        rw [tot, Int.zero_mul] at a1
        rw [Int.zero_mul] at a2
        rw [← a1, a2]
      by_cases z : A + B = 0
      · rw [if_pos z]
        have : ¬ n + 1 < 0 := fun h => by have := i1.2 h; omega
        simp [this]
      · rw [if_neg z]; simp only [i1]
    rw [hsign]
    refine nearest_exact _ _ _ u q hu q1 ?_
    rw [q2]
    have := congrArg Int.natAbs tot
    rw [Int.natAbs_mul, Int.natAbs_mul] at this
    simpa [half1] using this

/-- all of it: half of a number of 53 digits, and a half of one -/
theorem halves (n : Int) (h1 : -9007199254740992 < n) (h2 : n < 9007199254740992) :
    ∃ a b, Go.floatBits .quo .f64 (ofNum n) 4611686018427387904 = some a ∧ Go.floatBits .add .f64 a 4602678819172646912 = some b ∧ b < 18446744073709551616 ∧
      (n % 2 ≠ 0 → wholeIs b = true ∧ fEq (ofNum (wholeOf b)) b = true) := by
  obtain ⟨s, r, r1, r2, r3⟩ := half_of n h1 h2
  obtain ⟨t, q, q1, q2, q3⟩ := half_more n h1 h2 s r r1 r2
  obtain ⟨f1, f2, f3⟩ := fv_word t q q1
  refine ⟨_, _, r3, q3, f3, fun hodd => ?_⟩
  obtain ⟨c, hc⟩ : ∃ c, n + 1 = c * 2 := ⟨(n + 1) / 2, by omega⟩
  have hv : fv (double.word t q) = c * unit1 := by
    rw [f1, q2, hc]
    exact int_half c _ _ half_two
  have hw : isWhole (double.word t q) = true := by
    unfold isWhole
    obtain ⟨p1, p2, p3⟩ := word_parts t q (by omega)
    rw [p1, decide_eq_true_eq]
    have e := congrArg Int.natAbs (f1.symm.trans hv)
    rw [sg_neg_abs, Int.natAbs_mul] at e
    have e' : mg q = c.natAbs * unit1 := e
    rw [e', Nat.mul_mod_left]
  have ht : truncI (double.word t q) = c := by
    have := trunc_whole _ hw
    rw [hv] at this
    exact ((mul_eq_u _ _).1 this).symm
  have hi : wholeIs (double.word t q) = true := by
    have k1 : -9223372036854775808 ≤ c := by omega
    have k2 : c < 9223372036854775808 := by omega
    unfold wholeIs; rw [f2, hw, ht]; simp [k1, k2]
  refine ⟨hi, ?_⟩
  have ho : wholeOf (double.word t q) = truncI (double.word t q) := by unfold wholeOf; rw [if_pos hi]
  rw [ho]
  have := (back_same (double.word t q) f2).1
  rw [hw] at this
  exact this
end Go.Proofs.Ytconppelbjjkjaa
