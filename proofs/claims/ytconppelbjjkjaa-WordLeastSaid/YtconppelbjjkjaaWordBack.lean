/- The law WordBack: its walk. -/
import Derived.Test.YtconppelbjjkjaaWordReal
namespace Go.Proofs.Ytconppelbjjkjaa
open Go.RowKit
set_option maxHeartbeats 400000

theorem bitsSame_any (a b : Nat) (w : World) :
    Calls Try.prog 20 #[.float .f64 a, .float .f64 b] w fun e w' => e = .returned (.bool (alike a b)) ∧ w = w' := by
  cases h1 : isnan a <;> cases h2 : isnan b
  all_goals
    have hr := Lib.hid (show alike a b = (isnan a && isnan b || (a : Int) == b) from rfl)
    go_enter Try.func20, Try.ntmps20
    go_wp2
    go_ret
    exact ⟨ret_bool (by rw [hr.out, h1, h2]; rfl), rfl⟩

theorem ofReal_bd (b : Nat) (hb : b < 18446744073709551616) : 0 ≤ ofReal b ∧ ofReal b ≤ 18446744073709551615 := by
  unfold ofReal; split
  · omega
  · split <;> omega

theorem raw_ofReal (b : Nat) (hb : b < 18446744073709551616) (hn : isnan b = false) : rawOf (ofReal b) = b ∧ ofReal b ≠ 18446744073709551615 := by
  have hn' := hn
  unfold ofReal
  rw [hn]
  simp only [Bool.false_eq_true, if_false]
  by_cases h : b < 9223372036854775808
  · rw [isnan_low _ h] at hn'
    simp only [decide_eq_false_iff_not] at hn'
    rw [if_pos h]; unfold rawOf; rw [if_pos (by omega)]; omega
  · rw [if_neg h]; unfold rawOf; rw [if_neg (by omega)]; omega

theorem real_ofReal (b : Nat) (hb : b < 18446744073709551616) : realIs (ofReal b) = true ∧ alike b (realOf (ofReal b)) = true := by
  cases hn : isnan b with
  | true =>
    have : ofReal b = 18446744073709551615 := by simp [ofReal, hn]
    rw [this]
    refine ⟨rfl, ?_⟩
    have h2 : isnan (realOf 18446744073709551615) = true := by decide
    simp [alike, hn, h2]
  | false =>
    obtain ⟨h1, h2⟩ := raw_ofReal b hb hn
    simp [realIs, realOf, h1, h2, hn, alike]

theorem ofReal_real (x : Int) (h0 : 0 ≤ x) (h1 : x ≤ 18446744073709551615) (h : realIs x = true) : ofReal (realOf x) = x := by
  by_cases hx : x = 18446744073709551615
  · subst hx; decide
  · simp [realIs, hx] at h
    have e : realOf x = rawOf x := by simp [realOf, hx, h]
    rw [e]
    unfold ofReal
    rw [h]
    simp only [Bool.false_eq_true, if_false]
    unfold rawOf
    split <;> split <;> omega

theorem real_none (x : Int) (h : realIs x = false) : realOf x = 0 := by
  by_cases hx : x = 18446744073709551615
  · subst hx; cases h
  · simp [realIs, hx] at h
    simp [realOf, hx, h]

theorem realOf_lt (x : Int) (h0 : 0 ≤ x) (h1 : x ≤ 18446744073709551615) : realOf x < 18446744073709551616 := by
  unfold realOf
  split
  · omega
  · split
    · omega
    · unfold rawOf; split <;> omega

theorem pair_back (a b : Int) (h0 : -2147483648 ≤ a) (h1 : a ≤ 2147483647) (h2 : -2147483648 ≤ b) (h3 : b ≤ 2147483647) :
    ofPair a b / 4294967296 - 2147483648 = a ∧ ofPair a b % 4294967296 - 2147483648 = b ∧ 0 ≤ ofPair a b ∧ ofPair a b ≤ 18446744073709551615 := by
  unfold ofPair; omega

theorem wrap32_bd (x : Int) : -2147483648 ≤ wrap32 x ∧ wrap32 x ≤ 2147483647 := by unfold wrap32; omega

theorem wordBack_walk (a0 : Int) (w0 : (Lit.int .i64 a0).wf = true) (a1 : Int) (w1 : (Lit.int .u64 a1).wf = true) (w : World) :
    Calls Try.prog 4 #[.int .i64 a0, .int .u64 a1] w fun e w' => e = .returned (.bool true) ∧ Below w.heap.size w w' := by
  obtain ⟨h0, h1⟩ := bd_i64 w0
  obtain ⟨h2, h3⟩ := bd_u64 w1
  clear w0 w1
  have hlt : a1.toNat < 18446744073709551616 := by omega
  obtain ⟨b0, b1⟩ := ofReal_bd a1.toNat hlt
  obtain ⟨g1, g2⟩ := real_ofReal a1.toNat hlt
  obtain ⟨p0, p1⟩ := wrap32_bd a0
  obtain ⟨p2, p3⟩ := wrap32_bd a1
  obtain ⟨g3, g4, p4, p5⟩ := pair_back (wrap32 a0) (wrap32 a1) p0 p1 p2 p3
  have g5 : ofInt a0 - 9223372036854775808 = a0 := by unfold ofInt; omega
  have g6 : ofInt (a1 - 9223372036854775808) = a1 := by unfold ofInt; omega
  have i0 : 0 ≤ ofInt a0 ∧ ofInt a0 ≤ 18446744073709551615 := by unfold ofInt; omega
  obtain ⟨i0, i1⟩ := i0
  have hf := realOf_lt a1 h2 h3
  cases hi : realIs a1 with
  | false =>
    have g7 := real_none a1 hi
    have g8 : alike 0 0 = true := by decide
    go_enter Try.func4, Try.ntmps4
    go_wp2_with fail
    refine (ofReal_any _ hlt _).mono ?_
    rintro e w' ⟨rfl, rfl⟩
    go_wp2_with fail
    refine (real_any _ b0 b1 _).mono ?_
    rintro e w' ⟨rfl, rfl⟩
    go_wp2_with fail
    refine (ofPair_any _ _ p0 p1 p2 p3 _).mono ?_
    rintro e w' ⟨rfl, rfl⟩
    go_wp2_with fail
    refine (pair_any _ p4 p5 _).mono ?_
    rintro e w' ⟨rfl, rfl⟩
    go_wp2_with fail
    refine (real_any _ h2 h3 _).mono ?_
    rintro e w' ⟨rfl, rfl⟩
    go_wp2_with fail
    refine (bitsSame_any _ _ _).mono ?_
    rintro e w' ⟨rfl, rfl⟩
    go_wp2_with fail
    refine (ofInt_any _ h0 h1 _).mono ?_
    rintro e w' ⟨rfl, rfl⟩
    go_wp2_with fail
    refine (int_any _ i0 i1 _).mono ?_
    rintro e w' ⟨rfl, rfl⟩
    go_wp2_with fail
    refine (int_any _ h2 h3 _).mono ?_
    rintro e w' ⟨rfl, rfl⟩
    go_wp2_with fail
    refine (ofInt_any _ (by omega) (by omega) _).mono ?_
    rintro e w' ⟨rfl, rfl⟩
    go_wp2_with fail
    refine (bitsSame_any _ _ _).mono ?_
    rintro e w' ⟨rfl, rfl⟩
    go_wp2_with fail
    refine (known_any _).mono ?_
    rintro e w' ⟨rfl, rfl⟩
    go_wp2_with fail
    go_ret
    exact ⟨rfl, Below.refl _ _⟩
  | true =>
    have g7 := ofReal_real a1 h2 h3 hi
    go_enter Try.func4, Try.ntmps4
    go_wp2_with fail
    refine (ofReal_any _ hlt _).mono ?_
    rintro e w' ⟨rfl, rfl⟩
    go_wp2_with fail
    refine (real_any _ b0 b1 _).mono ?_
    rintro e w' ⟨rfl, rfl⟩
    go_wp2_with fail
    refine (ofPair_any _ _ p0 p1 p2 p3 _).mono ?_
    rintro e w' ⟨rfl, rfl⟩
    go_wp2_with fail
    refine (pair_any _ p4 p5 _).mono ?_
    rintro e w' ⟨rfl, rfl⟩
    go_wp2_with fail
    refine (real_any _ h2 h3 _).mono ?_
    rintro e w' ⟨rfl, rfl⟩
    go_wp2_with fail
    refine (bitsSame_any _ _ _).mono ?_
    rintro e w' ⟨rfl, rfl⟩
    go_wp2_with fail
    refine (ofInt_any _ h0 h1 _).mono ?_
    rintro e w' ⟨rfl, rfl⟩
    go_wp2_with fail
    refine (int_any _ i0 i1 _).mono ?_
    rintro e w' ⟨rfl, rfl⟩
    go_wp2_with fail
    refine (int_any _ h2 h3 _).mono ?_
    rintro e w' ⟨rfl, rfl⟩
    go_wp2_with fail
    refine (ofInt_any _ (by omega) (by omega) _).mono ?_
    rintro e w' ⟨rfl, rfl⟩
    go_wp2_with fail
    refine (ofReal_any _ hf _).mono ?_
    rintro e w' ⟨rfl, rfl⟩
    go_wp2_with fail
    refine (known_any _).mono ?_
    rintro e w' ⟨rfl, rfl⟩
    go_wp2_with fail
    go_ret
    exact ⟨rfl, Below.refl _ _⟩
end Go.Proofs.Ytconppelbjjkjaa
