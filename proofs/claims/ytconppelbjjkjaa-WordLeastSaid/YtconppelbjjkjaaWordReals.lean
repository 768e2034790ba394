/- The law WordReals: its walk. -/
import Derived.Test.YtconppelbjjkjaaWordWhole
import Derived.Test.YtconppelbjjkjaaWordSteps
namespace Go.Proofs.Ytconppelbjjkjaa
open Go.RowKit
set_option maxHeartbeats 400000

theorem negative_any (b : Nat) (w : World) :
    Calls Try.prog 65 #[.float .f64 b] w fun e w' => e = .returned (.bool (decide ((9223372036854775808 : Int) ≤ (b : Int)))) ∧ w = w' := by
  go_enter Try.func65, Try.ntmps65
  go_wp2
  go_ret
  exact ⟨rfl, rfl⟩

theorem word_cases (x : Nat) (hx : x < 18446744073709551616) (hn : isnan x = false) : (x < 9223372036854775808 ∧ sr x = x ∧ ofReal x = x + 9223372036854775808) ∨ (9223372036854775808 ≤ x ∧ sr x = 9223372036854775808 - (x : Int) ∧ ofReal x = 18446744073709551615 - x) := by
  by_cases h : x < 9223372036854775808
  · exact .inl ⟨h, sr_low x h, by simp [ofReal, hn, h]⟩
  · exact .inr ⟨by omega, sr_high x (by omega) hx, by simp [ofReal, hn, h]⟩

theorem cmp_num (a b : Nat) (ha : a < 18446744073709551616) (hb : b < 18446744073709551616) (na : isnan a = false) (nb : isnan b = false) :
    (fLt a b = true → cmp3 (ofReal a) (ofReal b) = -1) ∧ (fLt b a = true → cmp3 (ofReal a) (ofReal b) = 1) ∧
    (fLt a b = false → fLt b a = false → (9223372036854775808 ≤ a → b < 9223372036854775808 → cmp3 (ofReal a) (ofReal b) = -1) ∧ (9223372036854775808 ≤ b → a < 9223372036854775808 → cmp3 (ofReal a) (ofReal b) = 1) ∧ ((9223372036854775808 ≤ a ↔ 9223372036854775808 ≤ b) → cmp3 (ofReal a) (ofReal b) = 0)) := by
  unfold fLt cmp3
  rw [na, nb]
  simp only [Bool.not_false, Bool.true_and, decide_eq_true_eq, decide_eq_false_iff_not]
  rcases word_cases a ha na with ⟨q1, q2, q3⟩ | ⟨q1, q2, q3⟩ <;> rcases word_cases b hb nb with ⟨r1, r2, r3⟩ | ⟨r1, r2, r3⟩ <;> rw [q2, q3, r2, r3]
  all_goals
    refine ⟨fun h => ?_, fun h => ?_, fun h h' => ⟨fun k k' => ?_, fun k k' => ?_, fun k => ?_⟩⟩
    all_goals first | omega | (rw [if_pos (by omega)]) | (rw [if_neg (by omega), if_pos (by omega)]) | (rw [if_neg (by omega), if_neg (by omega)])

theorem cmp_nan (a b : Nat) (ha : a < 18446744073709551616) (hb : b < 18446744073709551616) :
    (isnan a = true → isnan b = true → cmp3 (ofReal a) (ofReal b) = 0) ∧ (isnan a = true → isnan b = false → cmp3 (ofReal a) (ofReal b) = 1) ∧ (isnan a = false → isnan b = true → cmp3 (ofReal a) (ofReal b) = -1) := by
  refine ⟨fun h h' => ?_, fun h h' => ?_, fun h h' => ?_⟩
  · simp [ofReal, h, h', cmp3]
  · have e : ofReal a = 18446744073709551615 := by simp [ofReal, h]
    have := ofReal_range b hb h'
    unfold cmp3; rw [e, if_neg (by omega), if_pos (by omega)]
  · have e : ofReal b = 18446744073709551615 := by simp [ofReal, h']
    have := ofReal_range a ha h
    unfold cmp3; rw [e, if_pos (by omega)]

theorem compare_ref (a b : Nat) (ha : a < 18446744073709551616) (hb : b < 18446744073709551616) (w : World) :
    Calls Try.prog 49 #[.float .f64 a, .float .f64 b] w fun e w' => e = .returned (.int .i64 (cmp3 (ofReal a) (ofReal b))) ∧ w = w' := by
  obtain ⟨n1, n2, n3⟩ := cmp_nan a b ha hb
  cases na : isnan a with
  | true =>
    cases nb : isnan b with
    | true =>
      have hr := Lib.hid (n1 na nb)
      clear ha hb n1 n2 n3
      go_enter Try.func49, Try.ntmps49
      go_wp2_with (first | (go_at_call 53; refine (nan_ref _ _).mono ?_; rintro e w' ⟨rfl, rfl⟩) | (go_at_call 65; refine (negative_any _ _).mono ?_; rintro e w' ⟨rfl, rfl⟩))
      go_ret
      exact ⟨ret_int hr.out.symm, rfl⟩
    | false =>
      have hr := Lib.hid (n2 na nb)
      clear ha hb n1 n2 n3
      go_enter Try.func49, Try.ntmps49
      go_wp2_with (first | (go_at_call 53; refine (nan_ref _ _).mono ?_; rintro e w' ⟨rfl, rfl⟩) | (go_at_call 65; refine (negative_any _ _).mono ?_; rintro e w' ⟨rfl, rfl⟩))
      go_ret
      exact ⟨ret_int hr.out.symm, rfl⟩
  | false =>
    cases nb : isnan b with
    | true =>
      have hr := Lib.hid (n3 na nb)
      clear ha hb n1 n2 n3
      go_enter Try.func49, Try.ntmps49
      go_wp2_with (first | (go_at_call 53; refine (nan_ref _ _).mono ?_; rintro e w' ⟨rfl, rfl⟩) | (go_at_call 65; refine (negative_any _ _).mono ?_; rintro e w' ⟨rfl, rfl⟩))
      go_ret
      exact ⟨ret_int hr.out.symm, rfl⟩
    | false =>
      obtain ⟨c1, c2, c3⟩ := cmp_num a b ha hb na nb
      cases l1 : fLt a b with
      | true =>
        have hr := Lib.hid (c1 l1)
        clear ha hb n1 n2 n3 c1 c2 c3
        go_enter Try.func49, Try.ntmps49
        go_wp2_with (first | (go_at_call 53; refine (nan_ref _ _).mono ?_; rintro e w' ⟨rfl, rfl⟩) | (go_at_call 65; refine (negative_any _ _).mono ?_; rintro e w' ⟨rfl, rfl⟩))
        go_ret
        exact ⟨ret_int hr.out.symm, rfl⟩
      | false =>
        cases l2 : fLt b a with
        | true =>
          have hr := Lib.hid (c2 l2)
          clear ha hb n1 n2 n3 c1 c2 c3
          go_enter Try.func49, Try.ntmps49
          go_wp2_with (first | (go_at_call 53; refine (nan_ref _ _).mono ?_; rintro e w' ⟨rfl, rfl⟩) | (go_at_call 65; refine (negative_any _ _).mono ?_; rintro e w' ⟨rfl, rfl⟩))
          go_ret
          exact ⟨ret_int hr.out.symm, rfl⟩
        | false =>
          obtain ⟨d1, d2, d3⟩ := c3 l1 l2
          by_cases m1 : 9223372036854775808 ≤ a
          · have g1 : decide ((9223372036854775808 : Int) ≤ (a : Int)) = true := decide_eq_true (by omega)
            by_cases m2 : 9223372036854775808 ≤ b
            · have g2 : decide ((9223372036854775808 : Int) ≤ (b : Int)) = true := decide_eq_true (by omega)
              have hr := Lib.hid (d3 (by omega))
              clear ha hb n1 n2 n3 c1 c2 c3 d1 d2 d3 m1 m2
              go_enter Try.func49, Try.ntmps49
              go_wp2_with (first | (go_at_call 53; refine (nan_ref _ _).mono ?_; rintro e w' ⟨rfl, rfl⟩) | (go_at_call 65; refine (negative_any _ _).mono ?_; rintro e w' ⟨rfl, rfl⟩))
              go_ret
              exact ⟨ret_int hr.out.symm, rfl⟩
            · have g2 : decide ((9223372036854775808 : Int) ≤ (b : Int)) = false := decide_eq_false (by omega)
              have hr := Lib.hid (d1 m1 (by omega))
              clear ha hb n1 n2 n3 c1 c2 c3 d1 d2 d3 m1 m2
              go_enter Try.func49, Try.ntmps49
              go_wp2_with (first | (go_at_call 53; refine (nan_ref _ _).mono ?_; rintro e w' ⟨rfl, rfl⟩) | (go_at_call 65; refine (negative_any _ _).mono ?_; rintro e w' ⟨rfl, rfl⟩))
              go_ret
              exact ⟨ret_int hr.out.symm, rfl⟩
          · have g1 : decide ((9223372036854775808 : Int) ≤ (a : Int)) = false := decide_eq_false (by omega)
            by_cases m2 : 9223372036854775808 ≤ b
            · have g2 : decide ((9223372036854775808 : Int) ≤ (b : Int)) = true := decide_eq_true (by omega)
              have hr := Lib.hid (d2 m2 (by omega))
              clear ha hb n1 n2 n3 c1 c2 c3 d1 d2 d3 m1 m2
              go_enter Try.func49, Try.ntmps49
              go_wp2_with (first | (go_at_call 53; refine (nan_ref _ _).mono ?_; rintro e w' ⟨rfl, rfl⟩) | (go_at_call 65; refine (negative_any _ _).mono ?_; rintro e w' ⟨rfl, rfl⟩))
              go_ret
              exact ⟨ret_int hr.out.symm, rfl⟩
            · have g2 : decide ((9223372036854775808 : Int) ≤ (b : Int)) = false := decide_eq_false (by omega)
              have hr := Lib.hid (d3 (by omega))
              clear ha hb n1 n2 n3 c1 c2 c3 d1 d2 d3 m1 m2
              go_enter Try.func49, Try.ntmps49
              go_wp2_with (first | (go_at_call 53; refine (nan_ref _ _).mono ?_; rintro e w' ⟨rfl, rfl⟩) | (go_at_call 65; refine (negative_any _ _).mono ?_; rintro e w' ⟨rfl, rfl⟩))
              go_ret
              exact ⟨ret_int hr.out.symm, rfl⟩

theorem upOf_lt (b : Nat) (hb : b < 18446744073709551616) : upOf b < 18446744073709551616 := by
  unfold upOf
  split
  · omega
  · rename_i h
    simp only [Bool.or_eq_true, decide_eq_true_eq, not_or, Bool.not_eq_true] at h
    have := ofReal_range b hb h.1
    exact realOf_lt _ (by omega) (by omega)

theorem wordReals_walk (a0 : Int) (w0 : (Lit.int .u64 a0).wf = true) (a1 : Int) (w1 : (Lit.int .u64 a1).wf = true) (w : World) :
    Calls Try.prog 11 #[.int .u64 a0, .int .u64 a1] w fun e w' => e = .returned (.bool true) ∧ Below w.heap.size w w' := by
  obtain ⟨h0, h1⟩ := bd_u64 w0
  obtain ⟨h2, h3⟩ := bd_u64 w1
  clear w0 w1
  have la : a0.toNat < 18446744073709551616 := by omega
  have lb : a1.toNat < 18446744073709551616 := by omega
  have f8 : (ofReal a0.toNat == ofReal a1.toNat) = (cmp3 (ofReal a0.toNat) (ofReal a1.toNat) == 0) := by
    unfold cmp3; rw [Bool.eq_iff_iff]; simp only [beq_iff_eq]; split
    · omega
    · split <;> omega
  have s1 := alike_self (upOf a0.toNat)
  have s2 := alike_self (downOf a0.toNat)
  go_enter Try.func11, Try.ntmps11
  go_wp2_with fail
  refine (whole_any _ la _).mono ?_
  rintro e w1 ⟨rfl, hs⟩
  go_wp2_with fail
  refine (whole_ref _ la _).mono ?_
  rintro e w' ⟨rfl, rfl⟩
  go_wp2_with fail
  refine (ofReal_any _ la _).mono ?_
  rintro e w' ⟨rfl, rfl⟩
  go_wp2_with fail
  refine (ofReal_ref _ la _).mono ?_
  rintro e w' ⟨rfl, rfl⟩
  go_wp2_with fail
  refine (compare_any _ _ la lb _).mono ?_
  rintro e w' ⟨rfl, rfl⟩
  go_wp2_with fail
  refine (compare_ref _ _ la lb _).mono ?_
  rintro e w' ⟨rfl, rfl⟩
  go_wp2_with fail
  refine (same_any _ _ la lb _).mono ?_
  rintro e w' ⟨rfl, rfl⟩
  go_wp2_with fail
  refine (compare_ref _ _ la lb _).mono ?_
  rintro e w' ⟨rfl, rfl⟩
  go_wp2_with fail
  refine (up_any _ la _).mono ?_
  rintro e w' ⟨rfl, rfl⟩
  go_wp2_with fail
  refine (up_ref _ la _).mono ?_
  rintro e w' ⟨rfl, rfl⟩
  go_wp2_with fail
  refine (alike_any _ _ _).mono ?_
  rintro e w' ⟨rfl, rfl⟩
  go_wp2_with fail
  refine (down_any _ la _).mono ?_
  rintro e w' ⟨rfl, rfl⟩
  go_wp2_with fail
  refine (down_ref _ la _).mono ?_
  rintro e w' ⟨rfl, rfl⟩
  go_wp2_with fail
  refine (alike_any _ _ _).mono ?_
  rintro e w' ⟨rfl, rfl⟩
  go_wp2_with fail
  refine (known_any _).mono ?_
  rintro e w' ⟨rfl, rfl⟩
  go_wp2_with fail
  go_ret
  exact ⟨rfl, hs.1⟩
end Go.Proofs.Ytconppelbjjkjaa
