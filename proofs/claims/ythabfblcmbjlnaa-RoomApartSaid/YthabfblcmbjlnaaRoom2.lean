/- The program's room by its contracts: each call is the plain function of the words. -/
import Derived.Test.YthabfblcmbjlnaaRoom
namespace Go.Proofs.Ythabfblcmbjlnaa
open Go.RowKit
set_option maxHeartbeats 2000000
set_option linter.unusedVariables false

theorem fits_no (t : Nat) (z : Int) (hz : z < 1 ∨ 16 < z) (w : World) :
    Calls Try.prog 21 #[.iface 24 (.pointer (some ⟨t, 0, none⟩)), .int .u64 z] w fun e w' => e = .returned (.int .i64 2) ∧ w = w' := by
  rcases hz with hz | hz
  all_goals
    go_enter Try.func21, Try.ntmps21
    go_wp2
    go_ret
    exact ⟨rfl, rfl⟩
theorem fits_ok (t : Nat) (z : Int) (h1 : 1 ≤ z) (h2 : z ≤ 16) (w : World) :
    Calls Try.prog 21 #[.iface 24 (.pointer (some ⟨t, 0, none⟩)), .int .u64 z] w fun e w' => e = .returned (.int .i64 0) ∧ w = w' := by
  go_enter Try.func21, Try.ntmps21
  go_wp2
  go_ret
  exact ⟨rfl, rfl⟩

theorem take_b {t b g cap : Nat} {s : St} {a z : Int} {w w0 : World} (hw : Txw w t b g cap s) (hf : Fits s) (ha : 0 ≤ a) (hz : 0 ≤ z) (hm : Mod b g w0 w) :
    Calls Try.prog 14 #[.iface 24 (.pointer (some ⟨t, 0, none⟩)), .int .u64 a, .int .u64 z] w fun e w' =>
      ∃ x er s', Hid (rTake s a z = (x, er, s')) ∧ 0 ≤ x ∧ x ≤ 18446744073709551615 ∧ Fits s' ∧ e = .returned (.tuple #[.int .u64 x, .int .i64 er]) ∧ Txw w' t b g cap s' ∧ Mod b g w0 w' := by
  by_cases hzz : z < 1 ∨ 16 < z
  · go_enter Try.func14, Try.ntmps14
    go_wp2_with (go_at_call 21; refine (fits_no _ _ (by assumption) _).mono ?_; rintro e w' ⟨rfl, rfl⟩)
    go_ret2
    refine ⟨_, _, _, ?_, ?_, ?_, ?_, rfl, by assumption, by assumption⟩
    all_goals first | assumption | (show (_ : Int) ≤ _; omega) | exact (uw_bd _).1 | exact (uw_bd _).2 | skip
    unfold Hid; unfold rTake; rw [if_pos hzz]
  · obtain ⟨z1, z2⟩ : 1 ≤ z ∧ z ≤ 16 := by omega
    clear hzz
    go_enter Try.func14, Try.ntmps14
    go_wp2_with (first | (go_at_call 40; refine (tget_b (by assumption) (by assumption) (by first | omega | exact (uw_bd _).1) (by assumption)).mono ?_; rintro e w' ⟨x, er, s', q, dx, dx', f', rfl, hw', hm'⟩) | (go_at_call 41; refine (tput_b (by assumption) (by assumption) (by first | omega | exact (uw_bd _).1) (by first | omega | exact (uw_bd _).1) (by first | omega | exact (uw_bd _).2) (by assumption)).mono ?_; rintro e w' ⟨er, s', q, f', rfl, hw', hm'⟩) | (go_at_call 21; refine (fits_ok _ _ (by assumption) (by assumption) _).mono ?_; rintro e w' ⟨rfl, rfl⟩) | go_in)
    all_goals first | go_ret2 | (go_ret3; go_wp2_with (first | (go_at_call 40; refine (tget_b (by assumption) (by assumption) (by first | omega | exact (uw_bd _).1) (by assumption)).mono ?_; rintro e w' ⟨x, er, s', q, dx, dx', f', rfl, hw', hm'⟩) | (go_at_call 41; refine (tput_b (by assumption) (by assumption) (by first | omega | exact (uw_bd _).1) (by first | omega | exact (uw_bd _).1) (by first | omega | exact (uw_bd _).2) (by assumption)).mono ?_; rintro e w' ⟨er, s', q, f', rfl, hw', hm'⟩)); all_goals go_ret2)
    all_goals refine ⟨_, _, _, ?_, ?_, ?_, ?_, rfl, by assumption, by assumption⟩
    all_goals first | assumption | (show (_ : Int) ≤ _; omega) | exact (uw_bd _).1 | exact (uw_bd _).2 | skip
    all_goals (unfold Hid at *; unfold rTake; rw [if_neg (by omega)])
    all_goals (try simp [uAdd, *])
    all_goals (first | omega | simp_all)

theorem give_b {t b g cap : Nat} {s : St} {a p z : Int} {w w0 : World} (hw : Txw w t b g cap s) (hf : Fits s) (ha : 0 ≤ a) (hp : 0 ≤ p) (hp' : p ≤ 18446744073709551615) (hz : 0 ≤ z) (hm : Mod b g w0 w) :
    Calls Try.prog 12 #[.iface 24 (.pointer (some ⟨t, 0, none⟩)), .int .u64 a, .int .u64 p, .int .u64 z] w fun e w' =>
      ∃ er s', Hid (rGive s a p z = (er, s')) ∧ Fits s' ∧ e = .returned (.int .i64 er) ∧ Txw w' t b g cap s' ∧ Mod b g w0 w' := by
  by_cases hzz : z < 1 ∨ 16 < z
  · go_enter Try.func12, Try.ntmps12
    go_wp2_with (go_at_call 21; refine (fits_no _ _ (by assumption) _).mono ?_; rintro e w' ⟨rfl, rfl⟩)
    go_ret
    refine ⟨_, _, ?_, ?_, rfl, by assumption, by assumption⟩
    all_goals first | assumption | (show (_ : Int) ≤ _; omega) | exact (uw_bd _).1 | exact (uw_bd _).2 | skip
    unfold Hid; unfold rGive; rw [if_pos hzz]
  · obtain ⟨z1, z2⟩ : 1 ≤ z ∧ z ≤ 16 := by omega
    clear hzz
    go_enter Try.func12, Try.ntmps12
    go_wp2_with (first | (go_at_call 40; refine (tget_b (by assumption) (by assumption) (by first | omega | exact (uw_bd _).1) (by assumption)).mono ?_; rintro e w' ⟨x, er, s', q, dx, dx', f', rfl, hw', hm'⟩) | (go_at_call 41; refine (tput_b (by assumption) (by assumption) (by first | omega | exact (uw_bd _).1) (by first | omega | exact (uw_bd _).1) (by first | omega | exact (uw_bd _).2) (by assumption)).mono ?_; rintro e w' ⟨er, s', q, f', rfl, hw', hm'⟩) | (go_at_call 21; refine (fits_ok _ _ (by assumption) (by assumption) _).mono ?_; rintro e w' ⟨rfl, rfl⟩))
    all_goals go_ret
    all_goals refine ⟨_, _, ?_, ?_, rfl, by assumption, by assumption⟩
    all_goals first | assumption | (show (_ : Int) ≤ _; omega) | exact (uw_bd _).1 | exact (uw_bd _).2 | skip
    all_goals (unfold Hid at *; unfold rGive; rw [if_neg (by omega)])
    all_goals (try simp [uAdd, *])
    all_goals (first | omega | simp_all)

theorem left_b {t b g cap : Nat} {s : St} {a : Int} {w w0 : World} (hw : Txw w t b g cap s) (hf : Fits s) (ha : 0 ≤ a) (hm : Mod b g w0 w) :
    Calls Try.prog 13 #[.iface 24 (.pointer (some ⟨t, 0, none⟩)), .int .u64 a] w fun e w' =>
      ∃ x er s', Hid (rLeft s a = (x, er, s')) ∧ 0 ≤ x ∧ x ≤ 18446744073709551615 ∧ Fits s' ∧ e = .returned (.tuple #[.int .u64 x, .int .i64 er]) ∧ Txw w' t b g cap s' ∧ Mod b g w0 w' := by
  go_enter Try.func13, Try.ntmps13
  go_wp2_with (first | (go_at_call 40; refine (tget_b (by assumption) (by assumption) (by first | omega | exact (uw_bd _).1) (by assumption)).mono ?_; rintro e w' ⟨x, er, s', q, dx, dx', f', rfl, hw', hm'⟩) | (go_at_call 41; refine (tput_b (by assumption) (by assumption) (by first | omega | exact (uw_bd _).1) (by first | omega | exact (uw_bd _).1) (by first | omega | exact (uw_bd _).2) (by assumption)).mono ?_; rintro e w' ⟨er, s', q, f', rfl, hw', hm'⟩) | go_in)
  all_goals (go_ret3; go_wp2; all_goals go_ret2)
  all_goals refine ⟨_, _, _, ?_, ?_, ?_, ?_, rfl, by assumption, by assumption⟩
  all_goals first | assumption | (show (_ : Int) ≤ _; omega) | exact (uw_bd _).1 | exact (uw_bd _).2 | skip
  all_goals (unfold Hid at *; unfold rLeft)
  all_goals (try simp [uAdd, *])
  all_goals (first | omega | simp_all)
end Go.Proofs.Ythabfblcmbjlnaa
