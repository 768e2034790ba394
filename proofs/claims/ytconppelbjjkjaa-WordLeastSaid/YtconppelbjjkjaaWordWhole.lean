/- The whole number that a double is: the program's and the document's, by one contract. -/
import Derived.Test.YtconppelbjjkjaaWordWholeA
namespace Go.Proofs.Ytconppelbjjkjaa
open Go.RowKit
set_option maxHeartbeats 400000

/-- Nothing in memory has turned, nothing is new. -/
def Still (w w' : World) : Prop := Below w.heap.size w w' ∧ w'.heap = w.heap
theorem Still.refl (w : World) : Still w w := ⟨Below.refl _ _, rfl⟩
theorem Still.trans {a b c : World} (h : Still a b) (k : Still b c) : Still a c :=
  ⟨h.1.trans (by have := k.1; rw [h.2] at this; exact this), k.2.trans h.2⟩

theorem not_fin_num (b : Nat) (hb : b < 18446744073709551616) (hn : isnan b = false) (hf : fin b = false) : b = 9218868437227405312 ∨ b = 18442240474082181120 := by
  simp [isnan] at hn; simp [fin] at hf; omega

theorem conv_any (b : Nat) (hf : fin b = true) (h1 : -9223372036854775808 ≤ truncI b) (h2 : truncI b < 9223372036854775808) :
    ∀ w, (convert 23 2 (.float .f64 b)).run Try.prog w = .ok (.int .i64 (truncI b)) w := by
  intro w
  refine run_convert_float_int (P := Try.prog) w 23 2 .f64 .i64 b (truncI b) (by kernel_rfl) Try.underlying2 ?_
  have h : (FloatKind.f64.decode b).toInt .zero = some (truncI b) := toInt_fin b hf
  unfold floatToIntVal
  rw [h]
  dsimp only
  rw [if_pos]
  exact ⟨h1, by show truncI b ≤ 9223372036854775807; omega⟩

theorem whole_any (b : Nat) (hb : b < 18446744073709551616) (w : World) :
    Calls Try.prog 46 #[.float .f64 b] w fun e w' => e = .returned (.tuple #[.int .i64 (wholeOf b), .bool (wholeIs b)]) ∧ Still w w' := by
  cases hn : isnan b with
  | true =>
    have hf : fin b = false := by simp [isnan] at hn; simp [fin]; omega
    have hr := Lib.hid (show 0 = wholeOf b ∧ false = wholeIs b by simp [wholeOf, wholeIs, hf])
    clear hf
    go_enter Try.func46, Try.ntmps46
    go_wp2_with fail
    refine (floor_nan b hn _).mono ?_
    rintro e w1 ⟨v, rfl, hv, hb1, hh⟩
    have hs := Lib.hid (show Still w w1 from ⟨hb1, hh⟩)
    have he : fEq v b = false := by simp [fEq, hn]
    clear hb1 hh hv
    go_wp2_with fail
    go_ret2
    exact ⟨ret_ib hr.out.1 hr.out.2, hs.out⟩
  | false =>
    cases hf : fin b with
    | false =>
      have hr := Lib.hid (show 0 = wholeOf b ∧ false = wholeIs b by simp [wholeOf, wholeIs, hf])
      rcases not_fin_num b hb hn hf with h | h
      · subst h
        have h1 : Ieee.double.write ((Ieee.double.read 9218868437227405312).integral .down) = 9218868437227405312 := by decide
        have h2 : fEq 9218868437227405312 9218868437227405312 = true := by decide
        have h3 : fLt 9218868437227405312 14114281232179134464 = false := by decide
        have h4 : (fLt 4890909195324358656 9218868437227405312 || fEq 9218868437227405312 4890909195324358656) = true := by decide
        clear hf hb
        go_enter Try.func46, Try.ntmps46
        go_wp2_with fail
        refine (floor_any _ hn _).mono ?_
        rintro e w' ⟨rfl, rfl⟩
        go_wp2_with fail
        go_ret2
        exact ⟨ret_ib hr.out.1 hr.out.2, Still.refl _⟩
      · subst h
        have h1 : Ieee.double.write ((Ieee.double.read 18442240474082181120).integral .down) = 18442240474082181120 := by decide
        have h2 : fEq 18442240474082181120 18442240474082181120 = true := by decide
        have h3 : fLt 18442240474082181120 14114281232179134464 = true := by decide
        clear hf hb
        go_enter Try.func46, Try.ntmps46
        go_wp2_with fail
        refine (floor_any _ hn _).mono ?_
        rintro e w' ⟨rfl, rfl⟩
        go_wp2_with fail
        go_ret2
        exact ⟨ret_ib hr.out.1 hr.out.2, Still.refl _⟩
    | true =>
      rcases integral_same .down b hb hf with ⟨hw, he⟩ | ⟨hw, hf2, hne⟩
      · have g1 := lt_lo b hf hw
        have g2 := ge_hi b hf hw
        by_cases c1 : truncI b < -9223372036854775808
        · have hr := Lib.hid (show 0 = wholeOf b ∧ false = wholeIs b by
            have : ¬ -9223372036854775808 ≤ truncI b := by omega
            simp [wholeOf, wholeIs, this])
          rw [decide_eq_true c1] at g1
          clear hf hb hw g2 c1
          go_enter Try.func46, Try.ntmps46
          go_wp2_with fail
          refine (floor_any _ hn _).mono ?_
          rintro e w' ⟨rfl, rfl⟩
          go_wp2_with fail
          go_ret2
          exact ⟨ret_ib hr.out.1 hr.out.2, Still.refl _⟩
        · rw [decide_eq_false c1] at g1
          by_cases c2 : 9223372036854775808 ≤ truncI b
          · have hr := Lib.hid (show 0 = wholeOf b ∧ false = wholeIs b by
              have : ¬ truncI b < 9223372036854775808 := by omega
              simp [wholeOf, wholeIs, this])
            rw [decide_eq_true c2] at g2
            clear hf hb hw c1 c2
            go_enter Try.func46, Try.ntmps46
            go_wp2_with fail
            refine (floor_any _ hn _).mono ?_
            rintro e w' ⟨rfl, rfl⟩
            go_wp2_with fail
            go_ret2
            exact ⟨ret_ib hr.out.1 hr.out.2, Still.refl _⟩
          · rw [decide_eq_false c2] at g2
            have hr := Lib.hid (show truncI b = wholeOf b ∧ true = wholeIs b by
              have k1 : -9223372036854775808 ≤ truncI b := by omega
              have k2 : truncI b < 9223372036854775808 := by omega
              simp [wholeOf, wholeIs, hf, hw, k1, k2])
            have hcv := conv_any b hf (by omega) (by omega)
            clear hf hb hw c1 c2
            go_enter Try.func46, Try.ntmps46
            go_wp2_with fail
            refine (floor_any _ hn _).mono ?_
            rintro e w' ⟨rfl, rfl⟩
            go_wp2_with fail
            go_ret2
            exact ⟨ret_ib hr.out.1 hr.out.2, Still.refl _⟩
      · have hr := Lib.hid (show 0 = wholeOf b ∧ false = wholeIs b by simp [wholeOf, wholeIs, hw])
        have he : fEq (Ieee.double.write ((Ieee.double.read b).integral .down)) b = false := by
          rw [fEq_fin _ _ (fin_nan _ hf2) hn, decide_eq_false_iff_not]; exact hne
        clear hf hb hw hf2 hne
        go_enter Try.func46, Try.ntmps46
        go_wp2_with fail
        refine (floor_any _ hn _).mono ?_
        rintro e w' ⟨rfl, rfl⟩
        go_wp2_with fail
        go_ret2
        exact ⟨ret_ib hr.out.1 hr.out.2, Still.refl _⟩

theorem whole_ref (b : Nat) (hb : b < 18446744073709551616) (w : World) :
    Calls Try.prog 47 #[.float .f64 b] w fun e w' => e = .returned (.tuple #[.int .i64 (wholeOf b), .bool (wholeIs b)]) ∧ w = w' := by
  cases hn : isnan b with
  | true =>
    have hf : fin b = false := by simp [isnan] at hn; simp [fin]; omega
    have hr := Lib.hid (show 0 = wholeOf b ∧ false = wholeIs b by simp [wholeOf, wholeIs, hf])
    clear hf
    go_enter Try.func47, Try.ntmps47
    go_wp2_with fail
    refine (nan_ref _ _).mono ?_
    rintro e w' ⟨rfl, rfl⟩
    go_wp2_with fail
    go_ret2
    exact ⟨ret_ib hr.out.1 hr.out.2, rfl⟩
  | false =>
    cases hf : fin b with
    | false =>
      have hr := Lib.hid (show 0 = wholeOf b ∧ false = wholeIs b by simp [wholeOf, wholeIs, hf])
      rcases not_fin_num b hb hn hf with h | h
      · subst h
        have h3 : fLt 9218868437227405312 14114281232179134464 = false := by decide
        have h4 : (fLt 4890909195324358656 9218868437227405312 || fEq 9218868437227405312 4890909195324358656) = true := by decide
        clear hf hb
        go_enter Try.func47, Try.ntmps47
        go_wp2_with fail
        refine (nan_ref _ _).mono ?_
        rintro e w' ⟨rfl, rfl⟩
        go_wp2_with fail
        go_ret2
        exact ⟨ret_ib hr.out.1 hr.out.2, rfl⟩
      · subst h
        have h3 : fLt 18442240474082181120 14114281232179134464 = true := by decide
        clear hf hb
        go_enter Try.func47, Try.ntmps47
        go_wp2_with fail
        refine (nan_ref _ _).mono ?_
        rintro e w' ⟨rfl, rfl⟩
        go_wp2_with fail
        go_ret2
        exact ⟨ret_ib hr.out.1 hr.out.2, rfl⟩
    | true =>
      cases g1 : fLt b 14114281232179134464 with
      | true =>
        have hr := Lib.hid (show 0 = wholeOf b ∧ false = wholeIs b by
          cases hw : isWhole b with
          | false => simp [wholeOf, wholeIs, hw]
          | true =>
            rw [lt_lo b hf hw] at g1
            have : ¬ -9223372036854775808 ≤ truncI b := by have := of_decide_eq_true g1; omega
            simp [wholeOf, wholeIs, this])
        clear hf hb
        go_enter Try.func47, Try.ntmps47
        go_wp2_with fail
        refine (nan_ref _ _).mono ?_
        rintro e w' ⟨rfl, rfl⟩
        go_wp2_with fail
        go_ret2
        exact ⟨ret_ib hr.out.1 hr.out.2, rfl⟩
      | false =>
        cases g2 : (fLt 4890909195324358656 b || fEq b 4890909195324358656) with
        | true =>
          have hr := Lib.hid (show 0 = wholeOf b ∧ false = wholeIs b by
            cases hw : isWhole b with
            | false => simp [wholeOf, wholeIs, hw]
            | true =>
              rw [ge_hi b hf hw] at g2
              have : ¬ truncI b < 9223372036854775808 := by have := of_decide_eq_true g2; omega
              simp [wholeOf, wholeIs, this])
          clear hf hb
          go_enter Try.func47, Try.ntmps47
          go_wp2_with fail
          refine (nan_ref _ _).mono ?_
          rintro e w' ⟨rfl, rfl⟩
          go_wp2_with fail
          go_ret2
          exact ⟨ret_ib hr.out.1 hr.out.2, rfl⟩
        | false =>
          obtain ⟨k1, k2⟩ := trunc_range b hf g1 g2
          have hcv := conv_any b hf k1 k2
          obtain ⟨b1, b2⟩ := back_same b hf
          cases hw : isWhole b with
          | true =>
            have hr := Lib.hid (show truncI b = wholeOf b ∧ true = wholeIs b by simp [wholeOf, wholeIs, hf, hw, k1, k2])
            rw [hw] at b1
            have b1' : fEq (floatOfInt .f64 (truncI b)) b = true := b1
            clear hf hb hw k1 k2 b1 b2
            go_enter Try.func47, Try.ntmps47
            go_wp2_with fail
            refine (nan_ref _ _).mono ?_
            rintro e w' ⟨rfl, rfl⟩
            go_wp2_with fail
            go_ret2
            exact ⟨ret_ib hr.out.1 hr.out.2, rfl⟩
          | false =>
            have hr := Lib.hid (show 0 = wholeOf b ∧ false = wholeIs b by simp [wholeOf, wholeIs, hw])
            rw [hw] at b1
            have b1' : fEq (floatOfInt .f64 (truncI b)) b = false := b1
            clear hf hb hw k1 k2 b1 b2
            go_enter Try.func47, Try.ntmps47
            go_wp2_with fail
            refine (nan_ref _ _).mono ?_
            rintro e w' ⟨rfl, rfl⟩
            go_wp2_with fail
            go_ret2
            exact ⟨ret_ib hr.out.1 hr.out.2, rfl⟩
end Go.Proofs.Ytconppelbjjkjaa
