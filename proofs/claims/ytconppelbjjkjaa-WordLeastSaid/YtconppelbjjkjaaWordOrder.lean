/- The law WordOrder: its walk. -/
import Derived.Test.YtconppelbjjkjaaWordBack
namespace Go.Proofs.Ytconppelbjjkjaa
open Go.RowKit
set_option maxHeartbeats 400000

@[go_sem] theorem fEq_self (a : Nat) : fEq a a = !isnan a := by simp [fEq]

theorem sr_low (b : Nat) (h : b < 9223372036854775808) : sr b = b := by
  unfold sr; rw [if_neg (by omega), Nat.mod_eq_of_lt h]
theorem sr_high (b : Nat) (h : 9223372036854775808 ≤ b) (h2 : b < 18446744073709551616) : sr b = 9223372036854775808 - (b : Int) := by
  unfold sr; rw [if_pos (by omega)]; omega

/-- The order of words is the order of numbers: all that the law asks of two doubles. -/
theorem order_cases (a b : Nat) (ha : a < 18446744073709551616) (hb : b < 18446744073709551616) :
    ∃ (na nb l e z : Bool) (c : Int), isnan a = na ∧ isnan b = nb ∧ fLt a b = l ∧ fEq a b = e ∧ fEq a 0 = z ∧ cmp3 (ofReal a) (ofReal b) = c ∧ cmp3 (ofReal b) (ofReal a) = -c ∧ (ofReal a == ofReal b) = (c == 0) ∧
      ((na, nb, l, e, z, c) = (true, true, false, false, false, 0) ∨ (na, nb, l, e, z, c) = (false, true, false, false, true, -1) ∨ (na, nb, l, e, z, c) = (false, true, false, false, false, -1) ∨ (na, nb, l, e, z, c) = (true, false, false, false, false, 1) ∨
       (na, nb, l, e, z, c) = (false, false, true, false, true, -1) ∨ (na, nb, l, e, z, c) = (false, false, true, false, false, -1) ∨ (na, nb, l, e, z, c) = (false, false, false, true, true, -1) ∨
       (na, nb, l, e, z, c) = (false, false, false, true, true, 0) ∨ (na, nb, l, e, z, c) = (false, false, false, true, false, 0) ∨
       (na, nb, l, e, z, c) = (false, false, false, true, true, 1) ∨ (na, nb, l, e, z, c) = (false, false, false, false, true, 1) ∨ (na, nb, l, e, z, c) = (false, false, false, false, false, 1)) := by
  have h0 : isnan 0 = false := by decide
  have s0 : sr 0 = 0 := by decide
  have key : ∀ x : Nat, x < 18446744073709551616 → isnan x = false → (x < 9223372036854775808 ∧ sr x = x ∧ ofReal x = x + 9223372036854775808) ∨ (9223372036854775808 ≤ x ∧ sr x = 9223372036854775808 - (x : Int) ∧ ofReal x = 18446744073709551615 - x) := by
    intro x hx hn
    by_cases h : x < 9223372036854775808
    · exact .inl ⟨h, sr_low x h, by simp [ofReal, hn, h]⟩
    · exact .inr ⟨by omega, sr_high x (by omega) hx, by simp [ofReal, hn, h]⟩
  have top : ∀ x : Nat, x < 18446744073709551616 → isnan x = false → ofReal x < 18446744073709551615 := by
    intro x hx hn
    have := (raw_ofReal x hx hn).2
    have := ofReal_bd x hx
    omega
  refine ⟨isnan a, isnan b, fLt a b, fEq a b, fEq a 0, cmp3 (ofReal a) (ofReal b), rfl, rfl, rfl, rfl, rfl, rfl, ?_, ?_, ?_⟩
  · unfold cmp3; split <;> split <;> omega
  · unfold cmp3; rw [Bool.eq_iff_iff]; simp only [beq_iff_eq]; split
    · omega
    · split <;> omega
  · unfold fLt fEq
    rw [h0, s0]
    cases hna : isnan a <;> cases hnb : isnan b
    · -- both numbers
      have kk : (sr a < sr b → ofReal a < ofReal b) ∧ (sr b < sr a → ofReal b < ofReal a) ∧ (sr a = sr b → sr a ≠ 0 → ofReal a = ofReal b) := by
        rcases key a ha hna with ⟨q1, q2, q3⟩ | ⟨q1, q2, q3⟩ <;> rcases key b hb hnb with ⟨r1, r2, r3⟩ | ⟨r1, r2, r3⟩ <;> rw [q2, q3, r2, r3] <;> refine ⟨?_, ?_, ?_⟩ <;> omega
      obtain ⟨k1, k2, k3⟩ := kk
      unfold cmp3
      by_cases hl : sr a < sr b
      · have k := k1 hl
        have he : ¬ sr a = sr b := by omega
        rw [if_pos k]
        by_cases hz : sr a = 0 <;> simp [hl, he, hz] <;> omega
      · by_cases he : sr a = sr b
        · by_cases hz : sr a = 0
          · have hz' : sr b = 0 := by omega
            by_cases cl : ofReal a < ofReal b
            · simp [hz, hz', cl]
            · by_cases cg : ofReal b < ofReal a <;> simp [hz, hz', cl, cg]
          · have k := k3 he hz
            have hz' : ¬ sr b = 0 := by omega
            simp [he, hz', k]
        · have k := k2 (by omega)
          have k' : ¬ ofReal a < ofReal b := by omega
          by_cases hz : sr a = 0 <;> simp [hl, he, hz, k, k'] <;> omega
    · have k := top a ha hna
      have hB : ofReal b = 18446744073709551615 := by simp [ofReal, hnb]
      rw [hB]
      unfold cmp3
      rw [if_pos k]
      by_cases hz : sr a = 0 <;> simp [hz]
    · have k := top b hb hnb
      have hA : ofReal a = 18446744073709551615 := by simp [ofReal, hna]
      rw [hA]
      unfold cmp3
      rw [if_neg (by omega), if_pos k]
      simp
    · have hA : ofReal a = 18446744073709551615 := by simp [ofReal, hna]
      have hB : ofReal b = 18446744073709551615 := by simp [ofReal, hnb]
      rw [hA, hB]
      unfold cmp3
      simp

theorem sign_any (x y : Int) (w : World) :
    Calls Try.prog 23 #[.int .u64 x, .int .u64 y] w fun e w' => e = .returned (.int .i64 (cmp3 x y)) ∧ w = w' := by
  by_cases c1 : x < y
  · have hr := Lib.hid (show cmp3 x y = -1 by simp [cmp3, c1])
    go_enter Try.func23, Try.ntmps23
    go_wp2
    go_ret
    exact ⟨ret_int hr.out.symm, rfl⟩
  · by_cases c2 : y < x
    · have hr := Lib.hid (show cmp3 x y = 1 by simp [cmp3, c1, c2])
      go_enter Try.func23, Try.ntmps23
      go_wp2
      go_ret
      exact ⟨ret_int hr.out.symm, rfl⟩
    · have hr := Lib.hid (show cmp3 x y = 0 by simp [cmp3, c1, c2])
      go_enter Try.func23, Try.ntmps23
      go_wp2
      go_ret
      exact ⟨ret_int hr.out.symm, rfl⟩

/-- The order of pairs is that of their words: all that the law asks of four halves. -/
theorem pair_three (p q r s : Int) (h1 : -2147483648 ≤ r) (h2 : r ≤ 2147483647) (h3 : -2147483648 ≤ s) (h4 : s ≤ 2147483647) :
    (decide (p < q) = true ∧ decide (ofPair p r < ofPair q s) = true) ∨ (decide (p < q) = false ∧ (p == q) = true ∧ decide (ofPair p r < ofPair q s) = decide (r < s)) ∨ (decide (p < q) = false ∧ (p == q) = false ∧ decide (ofPair p r < ofPair q s) = false) := by
  simp only [beq_iff_eq, beq_eq_false_iff_ne, ne_eq, decide_eq_true_eq, decide_eq_false_iff_not, decide_eq_decide]
  unfold ofPair
  by_cases c1 : p < q
  · left; omega
  · by_cases c2 : p = q
    · right; left; omega
    · right; right; omega

/-- What the law asks of two doubles, case by case. -/
theorem order_seven (a b : Nat) (ha : a < 18446744073709551616) (hb : b < 18446744073709551616) :
    (isnan a = false ∧ isnan b = false ∧ fLt a b = true ∧ fEq a b = false ∧ cmp3 (ofReal a) (ofReal b) = -1) ∨
    (isnan a = true ∧ isnan b = true ∧ fLt a b = false ∧ fEq a b = false ∧ cmp3 (ofReal a) (ofReal b) = 0) ∨
    (isnan a = false ∧ isnan b = true ∧ fLt a b = false ∧ fEq a b = false ∧ cmp3 (ofReal a) (ofReal b) = -1) ∨
    (isnan a = true ∧ isnan b = false ∧ fLt a b = false ∧ fEq a b = false) ∨
    (isnan a = false ∧ isnan b = false ∧ fLt a b = false ∧ fEq a b = false) ∨
    (isnan a = false ∧ isnan b = false ∧ fLt a b = false ∧ fEq a b = true ∧ fEq a 0 = true) ∨
    (isnan a = false ∧ isnan b = false ∧ fLt a b = false ∧ fEq a b = true ∧ fEq a 0 = false ∧ cmp3 (ofReal a) (ofReal b) = 0) := by
  obtain ⟨na, nb, l, e, z, c, f1, f2, f3, f4, f5, f6, f7, f8, hc⟩ := order_cases a b ha hb
  rw [f1, f2, f3, f4, f5, f6]
  rcases hc with hc | hc | hc | hc | hc | hc | hc | hc | hc | hc | hc | hc <;> simp only [Prod.mk.injEq] at hc <;> obtain ⟨rfl, rfl, rfl, rfl, rfl, rfl⟩ := hc <;> simp

set_option maxHeartbeats 4000000 in
theorem wordOrder_walk (a0 : Int) (w0 : (Lit.int .i64 a0).wf = true) (a1 : Int) (w1 : (Lit.int .i64 a1).wf = true) (a2 : Int) (w2 : (Lit.int .u64 a2).wf = true) (a3 : Int) (w3 : (Lit.int .u64 a3).wf = true) (w : World) :
    Calls Try.prog 5 #[.int .i64 a0, .int .i64 a1, .int .u64 a2, .int .u64 a3] w fun e w' => e = .returned (.bool true) ∧ Below w.heap.size w w' := by
  obtain ⟨h0, h1⟩ := bd_i64 w0
  obtain ⟨h2, h3⟩ := bd_i64 w1
  obtain ⟨h4, h5⟩ := bd_u64 w2
  obtain ⟨h6, h7⟩ := bd_u64 w3
  clear w0 w1 w2 w3
  have la : a2.toNat < 18446744073709551616 := by omega
  have lb : a3.toNat < 18446744073709551616 := by omega
  obtain ⟨p0, p1⟩ := wrap32_bd a0
  obtain ⟨p2, p3⟩ := wrap32_bd a1
  obtain ⟨p4, p5⟩ := wrap32_bd a2
  obtain ⟨p6, p7⟩ := wrap32_bd a3
  have gi : (ofInt a0 < ofInt a1) = (a0 < a1) := by unfold ofInt; exact propext ⟨fun h => by omega, fun h => by omega⟩
  have f7 : cmp3 (ofReal a3.toNat) (ofReal a2.toNat) = - cmp3 (ofReal a2.toNat) (ofReal a3.toNat) := by unfold cmp3; split <;> split <;> omega
  have f8 : (ofReal a2.toNat == ofReal a3.toNat) = (cmp3 (ofReal a2.toNat) (ofReal a3.toNat) == 0) := by
    unfold cmp3; rw [Bool.eq_iff_iff]; simp only [beq_iff_eq]; split
    · omega
    · split <;> omega
  have f9 : -1 ≤ cmp3 (ofReal a2.toNat) (ofReal a3.toNat) := by unfold cmp3; split <;> (try split) <;> omega
  have f10 : cmp3 (ofReal a2.toNat) (ofReal a3.toNat) ≤ 1 := by unfold cmp3; split <;> (try split) <;> omega
  rcases order_seven a2.toNat a3.toNat la lb with ⟨g1, g2, g3, g4, g5⟩ | ⟨g1, g2, g3, g4, g5⟩ | ⟨g1, g2, g3, g4, g5⟩ | ⟨g1, g2, g3, g4⟩ | ⟨g1, g2, g3, g4⟩ | ⟨g1, g2, g3, g4, g5⟩ | ⟨g1, g2, g3, g4, g5, g6⟩
  all_goals
    rcases pair_three (wrap32 a0) (wrap32 a1) (wrap32 a2) (wrap32 a3) p4 p5 p6 p7 with ⟨d1, d2⟩ | ⟨d1, d2, d3⟩ | ⟨d1, d2, d3⟩
    all_goals
      go_enter Try.func5, Try.ntmps5
      go_wp2_with fail
      refine (ofReal_any _ la _).mono ?_
      rintro e w' ⟨rfl, rfl⟩
      go_wp2_with fail
      refine (ofReal_any _ lb _).mono ?_
      rintro e w' ⟨rfl, rfl⟩
      go_wp2_with fail
      refine (sign_any _ _ _).mono ?_
      rintro e w' ⟨rfl, rfl⟩
      go_wp2_with fail
      refine (ofInt_any _ h0 h1 _).mono ?_
      rintro e w' ⟨rfl, rfl⟩
      go_wp2_with fail
      refine (ofInt_any _ h2 h3 _).mono ?_
      rintro e w' ⟨rfl, rfl⟩
      go_wp2_with fail
      refine (compare_any _ _ la lb _).mono ?_
      rintro e w' ⟨rfl, rfl⟩
      go_wp2_with fail
      refine (compare_any _ _ lb la _).mono ?_
      rintro e w' ⟨rfl, rfl⟩
      go_wp2_with fail
      refine (same_any _ _ la lb _).mono ?_
      rintro e w' ⟨rfl, rfl⟩
      go_wp2_with fail
      refine (ofPair_any _ _ p0 p1 p4 p5 _).mono ?_
      rintro e w' ⟨rfl, rfl⟩
      go_wp2_with fail
      refine (ofPair_any _ _ p2 p3 p6 p7 _).mono ?_
      rintro e w' ⟨rfl, rfl⟩
      go_wp2_with fail
      refine (known_any _).mono ?_
      rintro e w' ⟨rfl, rfl⟩
      go_wp2_with fail
      go_ret
      exact ⟨rfl, Below.refl _ _⟩
end Go.Proofs.Ytconppelbjjkjaa
