/- The law WordWhole: its walk. -/
import Derived.Test.YtconppelbjjkjaaWordNear
import Derived.Test.YtconppelbjjkjaaFloat4
namespace Go.Proofs.Ytconppelbjjkjaa
open Go.RowKit
set_option maxHeartbeats 400000

theorem near_small (n : Int) (h1 : -9007199254740992 < n) (h2 : n < 9007199254740992) : nearIs n = true := by
  have hov : over n.natAbs = 0 := by
    unfold over
    by_cases h0 : n.natAbs = 0
    · rw [h0]; decide
    · have := (Nat.log2_lt h0).2 (show n.natAbs < 2 ^ 53 by omega); omega
  unfold nearIs
  rw [hov, decide_eq_true_eq]; omega

theorem tmod_pos (x m : Int) (hm : 0 < m) : -m < x.tmod m ∧ x.tmod m < m := by
  have nn : ∀ y : Int, 0 ≤ y → 0 ≤ y.tmod m ∧ y.tmod m < m := by
    intro y hy
    rw [Int.tmod_eq_emod_of_nonneg hy]
    exact ⟨Int.emod_nonneg _ (by omega), Int.emod_lt_of_pos _ hm⟩
  by_cases h : 0 ≤ x
  · have := nn x h; omega
  · have e : x.tmod m = -((-x).tmod m) := by rw [Int.neg_tmod]; simp
    have := nn (-x) (by omega)
    omega
theorem tmod_two (x : Int) : x.tmod 2 = 0 ↔ x % 2 = 0 := by
  by_cases h : 0 ≤ x
  · rw [Int.tmod_eq_emod_of_nonneg h]
  · have e : x.tmod 2 = -((-x).tmod 2) := by rw [Int.neg_tmod]; simp
    rw [e, Int.tmod_eq_emod_of_nonneg (by omega)]; omega

theorem quo_run (a b p : Nat) (h : floatBits .quo .f64 a b = some p) : ∀ w, (binOp .quo 23 (.float .f64 a) (.float .f64 b)).run Try.prog w = .ok (.float .f64 p) w :=
  fun w => run_float_arith (P := Try.prog) w .quo 23 .f64 a b p h
theorem add_run (a b p : Nat) (h : floatBits .add .f64 a b = some p) : ∀ w, (binOp .add 23 (.float .f64 a) (.float .f64 b)).run Try.prog w = .ok (.float .f64 p) w :=
  fun w => run_float_arith (P := Try.prog) w .add 23 .f64 a b p h

set_option maxHeartbeats 2000000 in
theorem wordWhole_walk (a0 : Int) (w0 : (Lit.int .i64 a0).wf = true) (w : World) :
    Calls Try.prog 10 #[.int .i64 a0] w fun e w' => e = .returned (.bool true) ∧ Below w.heap.size w w' := by
  obtain ⟨h0, h1⟩ := bd_i64 w0
  clear w0
  obtain ⟨n, hn⟩ : ∃ n, a0.tmod 9007199254740992 = n := ⟨_, rfl⟩
  obtain ⟨b1, b2⟩ := tmod_pos a0 9007199254740992 (by omega)
  rw [hn] at b1 b2
  have n1 : -9223372036854775808 ≤ n := by omega
  have n2 : n ≤ 9223372036854775807 := by omega
  obtain ⟨d, q, q1, q2, q3, q4⟩ := halves n b1 b2
  obtain ⟨f1, f2, f3, f4⟩ := near_law n n1 n2
  have i1 := near_small n b1 b2
  obtain ⟨f5, f6⟩ := f3 i1
  obtain ⟨g1, g2, g3, g4⟩ := near_law a0 h0 h1
  have r1 := quo_run _ _ _ q1
  have r2 := add_run _ _ _ q2
  clear q1 q2 f1 f3 f4 b1 b2
  by_cases hodd : n % 2 = 0
  · have ho : (n.tmod 2 != 0) = false := by rw [(tmod_two n).2 hodd]; rfl
    clear q4 hodd
    cases gs : nearIs a0 with
    | true =>
      obtain ⟨g5, g6⟩ := g3 gs
      have g7 : (wholeOf (ofNum a0) == a0) = true := by simpa using g6
      clear g1 g3 g4 g6
      go_enter Try.func10, Try.ntmps10
      go_wp2_with fail
      refine (nearest_any _ n1 n2 _).mono ?_
      rintro e w1 ⟨rfl, hs1⟩
      go_wp2_with fail
      refine (whole_any _ f2 _).mono ?_
      rintro e w2 ⟨rfl, hs2⟩
      go_wp2_with fail
      refine (whole_any _ q3 _).mono ?_
      rintro e w3 ⟨rfl, hs3⟩
      go_wp2_with fail
      refine (nearest_any _ h0 h1 _).mono ?_
      rintro e w4 ⟨rfl, hs4⟩
      go_wp2_with fail
      refine (whole_any _ g2 _).mono ?_
      rintro e w5 ⟨rfl, hs5⟩
      go_wp2_with fail
      refine (known_any _).mono ?_
      rintro e w' ⟨rfl, rfl⟩
      go_wp2_with fail
      go_ret
      exact ⟨rfl, ((((hs1.trans hs2).trans hs3).trans hs4).trans hs5).1⟩
    | false =>
      cases gi : wholeIs (ofNum a0) with
      | true =>
        have g5 := g4 gi gs
        have g6 : (wholeOf (ofNum a0) != a0) = true := by rw [bne, g5]; rfl
        clear g1 g3 g4
        go_enter Try.func10, Try.ntmps10
        go_wp2_with fail
        refine (nearest_any _ n1 n2 _).mono ?_
        rintro e w1 ⟨rfl, hs1⟩
        go_wp2_with fail
        refine (whole_any _ f2 _).mono ?_
        rintro e w2 ⟨rfl, hs2⟩
        go_wp2_with fail
        refine (whole_any _ q3 _).mono ?_
        rintro e w3 ⟨rfl, hs3⟩
        go_wp2_with fail
        refine (nearest_any _ h0 h1 _).mono ?_
        rintro e w4 ⟨rfl, hs4⟩
        go_wp2_with fail
        refine (whole_any _ g2 _).mono ?_
        rintro e w5 ⟨rfl, hs5⟩
        go_wp2_with fail
        refine (known_any _).mono ?_
        rintro e w' ⟨rfl, rfl⟩
        go_wp2_with fail
        go_ret
        exact ⟨rfl, ((((hs1.trans hs2).trans hs3).trans hs4).trans hs5).1⟩
      | false =>
        clear g1 g3 g4
        go_enter Try.func10, Try.ntmps10
        go_wp2_with fail
        refine (nearest_any _ n1 n2 _).mono ?_
        rintro e w1 ⟨rfl, hs1⟩
        go_wp2_with fail
        refine (whole_any _ f2 _).mono ?_
        rintro e w2 ⟨rfl, hs2⟩
        go_wp2_with fail
        refine (whole_any _ q3 _).mono ?_
        rintro e w3 ⟨rfl, hs3⟩
        go_wp2_with fail
        refine (nearest_any _ h0 h1 _).mono ?_
        rintro e w4 ⟨rfl, hs4⟩
        go_wp2_with fail
        refine (whole_any _ g2 _).mono ?_
        rintro e w5 ⟨rfl, hs5⟩
        go_wp2_with fail
        refine (known_any _).mono ?_
        rintro e w' ⟨rfl, rfl⟩
        go_wp2_with fail
        go_ret
        exact ⟨rfl, ((((hs1.trans hs2).trans hs3).trans hs4).trans hs5).1⟩
  · obtain ⟨q5, q6⟩ := q4 hodd
    have ho : (n.tmod 2 != 0) = true := by rw [bne_iff_ne]; exact fun h => hodd ((tmod_two n).1 h)
    have r3 := conv_in (wholeOf q)
    clear q4 hodd
    cases gs : nearIs a0 with
    | true =>
      obtain ⟨g5, g6⟩ := g3 gs
      have g7 : (wholeOf (ofNum a0) == a0) = true := by simpa using g6
      clear g1 g3 g4 g6
      go_enter Try.func10, Try.ntmps10
      go_wp2_with fail
      refine (nearest_any _ n1 n2 _).mono ?_
      rintro e w1 ⟨rfl, hs1⟩
      go_wp2_with fail
      refine (whole_any _ f2 _).mono ?_
      rintro e w2 ⟨rfl, hs2⟩
      go_wp2_with fail
      refine (whole_any _ q3 _).mono ?_
      rintro e w3 ⟨rfl, hs3⟩
      go_wp2_with fail
      refine (nearest_any _ h0 h1 _).mono ?_
      rintro e w4 ⟨rfl, hs4⟩
      go_wp2_with fail
      refine (whole_any _ g2 _).mono ?_
      rintro e w5 ⟨rfl, hs5⟩
      go_wp2_with fail
      refine (known_any _).mono ?_
      rintro e w' ⟨rfl, rfl⟩
      go_wp2_with fail
      go_ret
      exact ⟨rfl, ((((hs1.trans hs2).trans hs3).trans hs4).trans hs5).1⟩
    | false =>
      cases gi : wholeIs (ofNum a0) with
      | true =>
        have g5 := g4 gi gs
        have g6 : (wholeOf (ofNum a0) != a0) = true := by rw [bne, g5]; rfl
        clear g1 g3 g4
        go_enter Try.func10, Try.ntmps10
        go_wp2_with fail
        refine (nearest_any _ n1 n2 _).mono ?_
        rintro e w1 ⟨rfl, hs1⟩
        go_wp2_with fail
        refine (whole_any _ f2 _).mono ?_
        rintro e w2 ⟨rfl, hs2⟩
        go_wp2_with fail
        refine (whole_any _ q3 _).mono ?_
        rintro e w3 ⟨rfl, hs3⟩
        go_wp2_with fail
        refine (nearest_any _ h0 h1 _).mono ?_
        rintro e w4 ⟨rfl, hs4⟩
        go_wp2_with fail
        refine (whole_any _ g2 _).mono ?_
        rintro e w5 ⟨rfl, hs5⟩
        go_wp2_with fail
        refine (known_any _).mono ?_
        rintro e w' ⟨rfl, rfl⟩
        go_wp2_with fail
        go_ret
        exact ⟨rfl, ((((hs1.trans hs2).trans hs3).trans hs4).trans hs5).1⟩
      | false =>
        clear g1 g3 g4
        go_enter Try.func10, Try.ntmps10
        go_wp2_with fail
        refine (nearest_any _ n1 n2 _).mono ?_
        rintro e w1 ⟨rfl, hs1⟩
        go_wp2_with fail
        refine (whole_any _ f2 _).mono ?_
        rintro e w2 ⟨rfl, hs2⟩
        go_wp2_with fail
        refine (whole_any _ q3 _).mono ?_
        rintro e w3 ⟨rfl, hs3⟩
        go_wp2_with fail
        refine (nearest_any _ h0 h1 _).mono ?_
        rintro e w4 ⟨rfl, hs4⟩
        go_wp2_with fail
        refine (whole_any _ g2 _).mono ?_
        rintro e w5 ⟨rfl, hs5⟩
        go_wp2_with fail
        refine (known_any _).mono ?_
        rintro e w' ⟨rfl, rfl⟩
        go_wp2_with fail
        go_ret
        exact ⟨rfl, ((((hs1.trans hs2).trans hs3).trans hs4).trans hs5).1⟩
end Go.Proofs.Ytconppelbjjkjaa
