/- The law WordSteps: its walk. -/
import Derived.Test.YtconppelbjjkjaaWordUp
namespace Go.Proofs.Ytconppelbjjkjaa
open Go.RowKit
set_option maxHeartbeats 400000

theorem alike_comm (a b : Nat) : alike a b = alike b a := by
  unfold alike; rw [Bool.and_comm, Bool.eq_iff_iff]; simp only [Bool.or_eq_true, Bool.and_eq_true, beq_iff_eq]
  constructor <;> (rintro (h | h); exact .inl h; exact .inr h.symm)

theorem steps_up (a : Nat) (ha : a < 18446744073709551616) (hn : isnan a = false) (h : a ≠ 9218868437227405312) :
    ofReal (upOf a) = ofReal a + 1 ∧ upOf a < 18446744073709551616 ∧ alike (downOf (upOf a)) a = true := by
  obtain ⟨r1, r2, r3, r4⟩ := ofReal_range a ha hn
  have r5 := r3 h
  have e : upOf a = realOf (ofReal a + 1) := by simp [upOf, hn, h]
  obtain ⟨q1, q2⟩ := real_in (ofReal a + 1) (by omega) (by omega)
  have lt := realOf_lt (ofReal a + 1) (by omega) (by omega)
  have s1 : ofReal (upOf a) = ofReal a + 1 := by rw [e]; exact ofReal_real _ (by omega) (by omega) q1
  refine ⟨s1, by rw [e]; exact lt, ?_⟩
  have nn : isnan (upOf a) = false := by rw [e]; exact q2
  have ni : upOf a ≠ 18442240474082181120 := by
    intro hh
    have : ofReal 18442240474082181120 = 4503599627370495 := by decide
    rw [hh, this] at s1
    omega
  have e2 : downOf (upOf a) = realOf (ofReal a) := by
    unfold downOf
    rw [nn, if_neg (by simp), if_neg ni, s1, show ofReal a + 1 - 1 = ofReal a by omega]
  rw [e2, alike_comm]
  exact (real_ofReal a ha).2

theorem steps_down (a : Nat) (ha : a < 18446744073709551616) (hn : isnan a = false) (h : a ≠ 18442240474082181120) :
    ofReal (downOf a) = ofReal a - 1 ∧ downOf a < 18446744073709551616 := by
  obtain ⟨r1, r2, r3, r4⟩ := ofReal_range a ha hn
  have r5 := r4 h
  have e : downOf a = realOf (ofReal a - 1) := by simp [downOf, hn, h]
  obtain ⟨q1, q2⟩ := real_in (ofReal a - 1) (by omega) (by omega)
  have lt := realOf_lt (ofReal a - 1) (by omega) (by omega)
  rw [e]
  exact ⟨ofReal_real _ (by omega) (by omega) q1, lt⟩

theorem mid_comm (x y : Int) : mid x y = mid y x := by unfold mid; split <;> split <;> omega
theorem mid_facts (x y : Int) (h : x ≤ y) : x ≤ mid x y ∧ mid x y ≤ y ∧ mid x y - x ≤ y - mid x y ∧ y - mid x y - (mid x y - x) ≤ 1 := by
  unfold mid; rw [if_neg (by omega)]; omega

theorem cmp3_up (x : Int) : cmp3 x (x + 1) = -1 := by unfold cmp3; rw [if_pos (by omega)]
theorem cmp3_down (x : Int) : cmp3 (x - 1) x = -1 := by unfold cmp3; rw [if_pos (by omega)]

set_option maxHeartbeats 4000000 in
theorem wordSteps_walk (a0 : Int) (w0 : (Lit.int .u64 a0).wf = true) (a1 : Int) (w1 : (Lit.int .u64 a1).wf = true) (w : World) :
    Calls Try.prog 8 #[.int .u64 a0, .int .u64 a1] w fun e w' => e = .returned (.bool true) ∧ Below w.heap.size w w' := by
  obtain ⟨h0, h1⟩ := bd_u64 w0
  obtain ⟨h2, h3⟩ := bd_u64 w1
  clear w0 w1
  have la : a0.toNat < 18446744073709551616 := by omega
  have mc : mid a1 a0 = mid a0 a1 := mid_comm _ _
  have md : (a0 < a1 ∧ a0 ≤ mid a0 a1 ∧ mid a0 a1 ≤ a1 ∧ mid a0 a1 - a0 ≤ a1 - mid a0 a1 ∧ a1 - mid a0 a1 - (mid a0 a1 - a0) ≤ 1) ∨ (a1 < a0 ∧ a1 ≤ mid a0 a1 ∧ mid a0 a1 ≤ a0 ∧ mid a0 a1 - a1 ≤ a0 - mid a0 a1 ∧ a0 - mid a0 a1 - (mid a0 a1 - a1) ≤ 1) ∨ a0 = a1 := by
    by_cases c : a0 < a1
    · exact .inl ⟨c, mid_facts a0 a1 (by omega)⟩
    · by_cases c2 : a1 < a0
      · have := mid_facts a1 a0 (by omega)
        rw [mc] at this
        exact .inr (.inl ⟨c2, this⟩)
      · exact .inr (.inr (by omega))
  have ms : mid a0 a0 = a0 := by simp [mid]
  cases hn : isnan a0.toNat with
  | true =>
    have u1 : upOf a0.toNat = 9221120237041090561 := by simp [upOf, hn]
    have u2 : isnan 9221120237041090561 = true := by decide
    rcases md with ⟨c, m1, m2, m3, m4⟩ | ⟨c, m1, m2, m3, m4⟩ | c
    · clear ms
      go_enter Try.func8, Try.ntmps8
      go_wp2_with fail
      refine (up_any _ la _).mono ?_
      rintro e w' ⟨rfl, rfl⟩
      go_wp2_with fail
      refine (down_any _ la _).mono ?_
      rintro e w' ⟨rfl, rfl⟩
      go_wp2_with fail
      refine (middle_any _ _ h0 h1 h2 h3 _).mono ?_
      rintro e w' ⟨rfl, rfl⟩
      go_wp2_with fail
      refine (middle_any _ _ h2 h3 h0 h1 _).mono ?_
      rintro e w' ⟨rfl, rfl⟩
      go_wp2_with fail
      refine (known_any _).mono ?_
      rintro e w' ⟨rfl, rfl⟩
      go_wp2_with fail
      go_ret
      exact ⟨rfl, Below.refl _ _⟩
    · clear ms
      go_enter Try.func8, Try.ntmps8
      go_wp2_with fail
      refine (up_any _ la _).mono ?_
      rintro e w' ⟨rfl, rfl⟩
      go_wp2_with fail
      refine (down_any _ la _).mono ?_
      rintro e w' ⟨rfl, rfl⟩
      go_wp2_with fail
      refine (middle_any _ _ h0 h1 h2 h3 _).mono ?_
      rintro e w' ⟨rfl, rfl⟩
      go_wp2_with fail
      refine (middle_any _ _ h2 h3 h0 h1 _).mono ?_
      rintro e w' ⟨rfl, rfl⟩
      go_wp2_with fail
      refine (known_any _).mono ?_
      rintro e w' ⟨rfl, rfl⟩
      go_wp2_with fail
      go_ret
      exact ⟨rfl, Below.refl _ _⟩
    · subst c
      clear mc
      go_enter Try.func8, Try.ntmps8
      go_wp2_with fail
      refine (up_any _ la _).mono ?_
      rintro e w' ⟨rfl, rfl⟩
      go_wp2_with fail
      refine (down_any _ la _).mono ?_
      rintro e w' ⟨rfl, rfl⟩
      go_wp2_with fail
      refine (middle_any _ _ h0 h1 h2 h3 _).mono ?_
      rintro e w' ⟨rfl, rfl⟩
      go_wp2_with fail
      refine (middle_any _ _ h2 h3 h0 h1 _).mono ?_
      rintro e w' ⟨rfl, rfl⟩
      go_wp2_with fail
      refine (known_any _).mono ?_
      rintro e w' ⟨rfl, rfl⟩
      go_wp2_with fail
      go_ret
      exact ⟨rfl, Below.refl _ _⟩
  | false =>
    obtain ⟨r1, r2, r3, r4⟩ := ofReal_range a0.toNat la hn
    have g1 := le_max a0.toNat la hn
    have g2 := ge_min a0.toNat la hn
    by_cases i1 : a0.toNat = 9218868437227405312
    · have i2 : ¬ a0.toNat = 18442240474082181120 := by omega
      have u1 : upOf a0.toNat = 9221120237041090561 := by simp [upOf, i1]
      have u2 : isnan 9221120237041090561 = true := by decide
      obtain ⟨d1, d2⟩ := steps_down a0.toNat la hn i2
      have d3 := cmp3_down (ofReal a0.toNat)
      have b1 := r4 i2
      rw [decide_eq_false (by simpa using i1)] at g1
      rw [decide_eq_true (by simpa using i2)] at g2
      clear i1 i2 r1 r3 r4
      rcases md with ⟨c, m1, m2, m3, m4⟩ | ⟨c, m1, m2, m3, m4⟩ | c
      · clear ms
        go_enter Try.func8, Try.ntmps8
        go_wp2_with fail
        refine (up_any _ la _).mono ?_
        rintro e w' ⟨rfl, rfl⟩
        go_wp2_with fail
        refine (down_any _ la _).mono ?_
        rintro e w' ⟨rfl, rfl⟩
        go_wp2_with fail
        refine (compare_any _ _ d2 la _).mono ?_
        rintro e w' ⟨rfl, rfl⟩
        go_wp2_with fail
        refine (ofReal_any _ d2 _).mono ?_
        rintro e w' ⟨rfl, rfl⟩
        go_wp2_with fail
        refine (ofReal_any _ la _).mono ?_
        rintro e w' ⟨rfl, rfl⟩
        go_wp2_with fail
        refine (middle_any _ _ h0 h1 h2 h3 _).mono ?_
        rintro e w' ⟨rfl, rfl⟩
        go_wp2_with fail
        refine (middle_any _ _ h2 h3 h0 h1 _).mono ?_
        rintro e w' ⟨rfl, rfl⟩
        go_wp2_with fail
        refine (known_any _).mono ?_
        rintro e w' ⟨rfl, rfl⟩
        go_wp2_with fail
        go_ret
        exact ⟨rfl, Below.refl _ _⟩
      · clear ms
        go_enter Try.func8, Try.ntmps8
        go_wp2_with fail
        refine (up_any _ la _).mono ?_
        rintro e w' ⟨rfl, rfl⟩
        go_wp2_with fail
        refine (down_any _ la _).mono ?_
        rintro e w' ⟨rfl, rfl⟩
        go_wp2_with fail
        refine (compare_any _ _ d2 la _).mono ?_
        rintro e w' ⟨rfl, rfl⟩
        go_wp2_with fail
        refine (ofReal_any _ d2 _).mono ?_
        rintro e w' ⟨rfl, rfl⟩
        go_wp2_with fail
        refine (ofReal_any _ la _).mono ?_
        rintro e w' ⟨rfl, rfl⟩
        go_wp2_with fail
        refine (middle_any _ _ h0 h1 h2 h3 _).mono ?_
        rintro e w' ⟨rfl, rfl⟩
        go_wp2_with fail
        refine (middle_any _ _ h2 h3 h0 h1 _).mono ?_
        rintro e w' ⟨rfl, rfl⟩
        go_wp2_with fail
        refine (known_any _).mono ?_
        rintro e w' ⟨rfl, rfl⟩
        go_wp2_with fail
        go_ret
        exact ⟨rfl, Below.refl _ _⟩
      · subst c
        clear mc
        go_enter Try.func8, Try.ntmps8
        go_wp2_with fail
        refine (up_any _ la _).mono ?_
        rintro e w' ⟨rfl, rfl⟩
        go_wp2_with fail
        refine (down_any _ la _).mono ?_
        rintro e w' ⟨rfl, rfl⟩
        go_wp2_with fail
        refine (compare_any _ _ d2 la _).mono ?_
        rintro e w' ⟨rfl, rfl⟩
        go_wp2_with fail
        refine (ofReal_any _ d2 _).mono ?_
        rintro e w' ⟨rfl, rfl⟩
        go_wp2_with fail
        refine (ofReal_any _ la _).mono ?_
        rintro e w' ⟨rfl, rfl⟩
        go_wp2_with fail
        refine (middle_any _ _ h0 h1 h2 h3 _).mono ?_
        rintro e w' ⟨rfl, rfl⟩
        go_wp2_with fail
        refine (middle_any _ _ h2 h3 h0 h1 _).mono ?_
        rintro e w' ⟨rfl, rfl⟩
        go_wp2_with fail
        refine (known_any _).mono ?_
        rintro e w' ⟨rfl, rfl⟩
        go_wp2_with fail
        go_ret
        exact ⟨rfl, Below.refl _ _⟩
    · obtain ⟨v1, v2, v3⟩ := steps_up a0.toNat la hn i1
      have v4 := cmp3_up (ofReal a0.toNat)
      have b2 := r3 i1
      rw [decide_eq_true (by simpa using i1)] at g1
      by_cases i2 : a0.toNat = 18442240474082181120
      · rw [decide_eq_false (by simpa using i2)] at g2
        clear i1 i2 r2 r3 r4
        rcases md with ⟨c, m1, m2, m3, m4⟩ | ⟨c, m1, m2, m3, m4⟩ | c
        · clear ms
          go_enter Try.func8, Try.ntmps8
          go_wp2_with fail
          refine (up_any _ la _).mono ?_
          rintro e w' ⟨rfl, rfl⟩
          go_wp2_with fail
          refine (down_any _ la _).mono ?_
          rintro e w' ⟨rfl, rfl⟩
          go_wp2_with fail
          refine (compare_any _ _ la v2 _).mono ?_
          rintro e w' ⟨rfl, rfl⟩
          go_wp2_with fail
          refine (ofReal_any _ v2 _).mono ?_
          rintro e w' ⟨rfl, rfl⟩
          go_wp2_with fail
          refine (ofReal_any _ la _).mono ?_
          rintro e w' ⟨rfl, rfl⟩
          go_wp2_with fail
          refine (down_any _ v2 _).mono ?_
          rintro e w' ⟨rfl, rfl⟩
          go_wp2_with fail
          refine (bitsSame_any _ _ _).mono ?_
          rintro e w' ⟨rfl, rfl⟩
          go_wp2_with fail
          refine (middle_any _ _ h0 h1 h2 h3 _).mono ?_
          rintro e w' ⟨rfl, rfl⟩
          go_wp2_with fail
          refine (middle_any _ _ h2 h3 h0 h1 _).mono ?_
          rintro e w' ⟨rfl, rfl⟩
          go_wp2_with fail
          refine (known_any _).mono ?_
          rintro e w' ⟨rfl, rfl⟩
          go_wp2_with fail
          go_ret
          exact ⟨rfl, Below.refl _ _⟩
        · clear ms
          go_enter Try.func8, Try.ntmps8
          go_wp2_with fail
          refine (up_any _ la _).mono ?_
          rintro e w' ⟨rfl, rfl⟩
          go_wp2_with fail
          refine (down_any _ la _).mono ?_
          rintro e w' ⟨rfl, rfl⟩
          go_wp2_with fail
          refine (compare_any _ _ la v2 _).mono ?_
          rintro e w' ⟨rfl, rfl⟩
          go_wp2_with fail
          refine (ofReal_any _ v2 _).mono ?_
          rintro e w' ⟨rfl, rfl⟩
          go_wp2_with fail
          refine (ofReal_any _ la _).mono ?_
          rintro e w' ⟨rfl, rfl⟩
          go_wp2_with fail
          refine (down_any _ v2 _).mono ?_
          rintro e w' ⟨rfl, rfl⟩
          go_wp2_with fail
          refine (bitsSame_any _ _ _).mono ?_
          rintro e w' ⟨rfl, rfl⟩
          go_wp2_with fail
          refine (middle_any _ _ h0 h1 h2 h3 _).mono ?_
          rintro e w' ⟨rfl, rfl⟩
          go_wp2_with fail
          refine (middle_any _ _ h2 h3 h0 h1 _).mono ?_
          rintro e w' ⟨rfl, rfl⟩
          go_wp2_with fail
          refine (known_any _).mono ?_
          rintro e w' ⟨rfl, rfl⟩
          go_wp2_with fail
          go_ret
          exact ⟨rfl, Below.refl _ _⟩
        · subst c
          clear mc
          go_enter Try.func8, Try.ntmps8
          go_wp2_with fail
          refine (up_any _ la _).mono ?_
          rintro e w' ⟨rfl, rfl⟩
          go_wp2_with fail
          refine (down_any _ la _).mono ?_
          rintro e w' ⟨rfl, rfl⟩
          go_wp2_with fail
          refine (compare_any _ _ la v2 _).mono ?_
          rintro e w' ⟨rfl, rfl⟩
          go_wp2_with fail
          refine (ofReal_any _ v2 _).mono ?_
          rintro e w' ⟨rfl, rfl⟩
          go_wp2_with fail
          refine (ofReal_any _ la _).mono ?_
          rintro e w' ⟨rfl, rfl⟩
          go_wp2_with fail
          refine (down_any _ v2 _).mono ?_
          rintro e w' ⟨rfl, rfl⟩
          go_wp2_with fail
          refine (bitsSame_any _ _ _).mono ?_
          rintro e w' ⟨rfl, rfl⟩
          go_wp2_with fail
          refine (middle_any _ _ h0 h1 h2 h3 _).mono ?_
          rintro e w' ⟨rfl, rfl⟩
          go_wp2_with fail
          refine (middle_any _ _ h2 h3 h0 h1 _).mono ?_
          rintro e w' ⟨rfl, rfl⟩
          go_wp2_with fail
          refine (known_any _).mono ?_
          rintro e w' ⟨rfl, rfl⟩
          go_wp2_with fail
          go_ret
          exact ⟨rfl, Below.refl _ _⟩
      · obtain ⟨d1, d2⟩ := steps_down a0.toNat la hn i2
        have d3 := cmp3_down (ofReal a0.toNat)
        have b1 := r4 i2
        rw [decide_eq_true (by simpa using i2)] at g2
        clear i1 i2 r1 r2 r3 r4
        rcases md with ⟨c, m1, m2, m3, m4⟩ | ⟨c, m1, m2, m3, m4⟩ | c
        · clear ms
          go_enter Try.func8, Try.ntmps8
          go_wp2_with fail
          refine (up_any _ la _).mono ?_
          rintro e w' ⟨rfl, rfl⟩
          go_wp2_with fail
          refine (down_any _ la _).mono ?_
          rintro e w' ⟨rfl, rfl⟩
          go_wp2_with fail
          refine (compare_any _ _ la v2 _).mono ?_
          rintro e w' ⟨rfl, rfl⟩
          go_wp2_with fail
          refine (ofReal_any _ v2 _).mono ?_
          rintro e w' ⟨rfl, rfl⟩
          go_wp2_with fail
          refine (ofReal_any _ la _).mono ?_
          rintro e w' ⟨rfl, rfl⟩
          go_wp2_with fail
          refine (down_any _ v2 _).mono ?_
          rintro e w' ⟨rfl, rfl⟩
          go_wp2_with fail
          refine (bitsSame_any _ _ _).mono ?_
          rintro e w' ⟨rfl, rfl⟩
          go_wp2_with fail
          refine (compare_any _ _ d2 la _).mono ?_
          rintro e w' ⟨rfl, rfl⟩
          go_wp2_with fail
          refine (ofReal_any _ d2 _).mono ?_
          rintro e w' ⟨rfl, rfl⟩
          go_wp2_with fail
          refine (ofReal_any _ la _).mono ?_
          rintro e w' ⟨rfl, rfl⟩
          go_wp2_with fail
          refine (middle_any _ _ h0 h1 h2 h3 _).mono ?_
          rintro e w' ⟨rfl, rfl⟩
          go_wp2_with fail
          refine (middle_any _ _ h2 h3 h0 h1 _).mono ?_
          rintro e w' ⟨rfl, rfl⟩
          go_wp2_with fail
          refine (known_any _).mono ?_
          rintro e w' ⟨rfl, rfl⟩
          go_wp2_with fail
          go_ret
          exact ⟨rfl, Below.refl _ _⟩
        · clear ms
          go_enter Try.func8, Try.ntmps8
          go_wp2_with fail
          refine (up_any _ la _).mono ?_
          rintro e w' ⟨rfl, rfl⟩
          go_wp2_with fail
          refine (down_any _ la _).mono ?_
          rintro e w' ⟨rfl, rfl⟩
          go_wp2_with fail
          refine (compare_any _ _ la v2 _).mono ?_
          rintro e w' ⟨rfl, rfl⟩
          go_wp2_with fail
          refine (ofReal_any _ v2 _).mono ?_
          rintro e w' ⟨rfl, rfl⟩
          go_wp2_with fail
          refine (ofReal_any _ la _).mono ?_
          rintro e w' ⟨rfl, rfl⟩
          go_wp2_with fail
          refine (down_any _ v2 _).mono ?_
          rintro e w' ⟨rfl, rfl⟩
          go_wp2_with fail
          refine (bitsSame_any _ _ _).mono ?_
          rintro e w' ⟨rfl, rfl⟩
          go_wp2_with fail
          refine (compare_any _ _ d2 la _).mono ?_
          rintro e w' ⟨rfl, rfl⟩
          go_wp2_with fail
          refine (ofReal_any _ d2 _).mono ?_
          rintro e w' ⟨rfl, rfl⟩
          go_wp2_with fail
          refine (ofReal_any _ la _).mono ?_
          rintro e w' ⟨rfl, rfl⟩
          go_wp2_with fail
          refine (middle_any _ _ h0 h1 h2 h3 _).mono ?_
          rintro e w' ⟨rfl, rfl⟩
          go_wp2_with fail
          refine (middle_any _ _ h2 h3 h0 h1 _).mono ?_
          rintro e w' ⟨rfl, rfl⟩
          go_wp2_with fail
          refine (known_any _).mono ?_
          rintro e w' ⟨rfl, rfl⟩
          go_wp2_with fail
          go_ret
          exact ⟨rfl, Below.refl _ _⟩
        · subst c
          clear mc
          go_enter Try.func8, Try.ntmps8
          go_wp2_with fail
          refine (up_any _ la _).mono ?_
          rintro e w' ⟨rfl, rfl⟩
          go_wp2_with fail
          refine (down_any _ la _).mono ?_
          rintro e w' ⟨rfl, rfl⟩
          go_wp2_with fail
          refine (compare_any _ _ la v2 _).mono ?_
          rintro e w' ⟨rfl, rfl⟩
          go_wp2_with fail
          refine (ofReal_any _ v2 _).mono ?_
          rintro e w' ⟨rfl, rfl⟩
          go_wp2_with fail
          refine (ofReal_any _ la _).mono ?_
          rintro e w' ⟨rfl, rfl⟩
          go_wp2_with fail
          refine (down_any _ v2 _).mono ?_
          rintro e w' ⟨rfl, rfl⟩
          go_wp2_with fail
          refine (bitsSame_any _ _ _).mono ?_
          rintro e w' ⟨rfl, rfl⟩
          go_wp2_with fail
          refine (compare_any _ _ d2 la _).mono ?_
          rintro e w' ⟨rfl, rfl⟩
          go_wp2_with fail
          refine (ofReal_any _ d2 _).mono ?_
          rintro e w' ⟨rfl, rfl⟩
          go_wp2_with fail
          refine (ofReal_any _ la _).mono ?_
          rintro e w' ⟨rfl, rfl⟩
          go_wp2_with fail
          refine (middle_any _ _ h0 h1 h2 h3 _).mono ?_
          rintro e w' ⟨rfl, rfl⟩
          go_wp2_with fail
          refine (middle_any _ _ h2 h3 h0 h1 _).mono ?_
          rintro e w' ⟨rfl, rfl⟩
          go_wp2_with fail
          refine (known_any _).mono ?_
          rintro e w' ⟨rfl, rfl⟩
          go_wp2_with fail
          go_ret
          exact ⟨rfl, Below.refl _ _⟩
end Go.Proofs.Ytconppelbjjkjaa
