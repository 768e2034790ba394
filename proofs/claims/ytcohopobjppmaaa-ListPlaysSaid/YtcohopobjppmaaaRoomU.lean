/- The program's room by its contracts: each call is the plain function of the words. -/
import Derived.Test.YtcohopobjppmaaaTxC
import Derived.Test.YtcohopobjppmaaaRoomFn
namespace Go.Proofs.Ytcohopobjppmaaa
open Go.RowKit
set_option maxHeartbeats 2000000
set_option linter.unusedVariables false

theorem fits_no (t : Nat) (z : Int) (hz : z < 1 ∨ 16 < z) (w : World) :
    Calls Try.prog 48 #[.iface 31 (.pointer (some ⟨t, 0, none⟩)), .int .u64 z] w fun e w' => e = .returned (.int .i64 2) ∧ w = w' := by
  rcases hz with hz | hz
  all_goals
    go_enter Try.func48, Try.ntmps48
    go_wp2
    go_ret
    exact ⟨rfl, rfl⟩
theorem fits_ok (t : Nat) (z : Int) (h1 : 1 ≤ z) (h2 : z ≤ 16) (w : World) :
    Calls Try.prog 48 #[.iface 31 (.pointer (some ⟨t, 0, none⟩)), .int .u64 z] w fun e w' => e = .returned (.int .i64 0) ∧ w = w' := by
  go_enter Try.func48, Try.ntmps48
  go_wp2
  go_ret
  exact ⟨rfl, rfl⟩

theorem take_b {t n : Nat} {F F0 : Nat → Prop} {s : St} {a z : Int} {w w0 : World} (hw : Txw w t F s) (hf : Fits s) (hb : Bud s (n + 4)) (ha : 0 ≤ a) (hz : 0 ≤ z) (hm : Fr F0 w0 F w) :
    Calls Try.prog 47 #[.iface 31 (.pointer (some ⟨t, 0, none⟩)), .int .u64 a, .int .u64 z] w fun e w' =>
      ∃ x er s', Hid (rTake s a z = (x, er, s')) ∧ 0 ≤ x ∧ x ≤ 18446744073709551615 ∧ e = .returned (.tuple #[.int .u64 x, .int .i64 er]) ∧ Lft t n F0 w0 s' w' := by
  by_cases hzz : z < 1 ∨ 16 < z
  · go_enter Try.func47, Try.ntmps47
    go_wp2_with (go_at_call 48; refine (fits_no _ _ (by assumption) _).mono ?_; rintro e w' ⟨rfl, rfl⟩)
    go_ret2
    refine ⟨_, _, _, ?_, ?_, ?_, rfl, ?_, ?_, _, by assumption, by assumption⟩
    all_goals first | assumption | (show (_ : Int) ≤ _; omega) | exact (uw_bd _).1 | exact (uw_bd _).2 | exact Bud.mono (by assumption) (by omega) | skip
    unfold Hid; unfold rTake; rw [if_pos hzz]
  · obtain ⟨z1, z2⟩ : 1 ≤ z ∧ z ≤ 16 := by omega
    clear hzz
    go_enter Try.func47, Try.ntmps47
    go_wp2_with (first | (go_at_call 70; refine (tget_b (by assumption) (by assumption) (by assumption) (by first | omega | exact (uw_bd _).1) (by assumption)).mono ?_; rintro e w' ⟨x, er, s', q, dx, dx', rfl, f', b', F', hw', hm'⟩) | (go_at_call 71; refine (tput_b (by assumption) (by assumption) (by assumption) (by first | omega | exact (uw_bd _).1) (by first | omega | exact (uw_bd _).1) (by first | omega | exact (uw_bd _).2) (by assumption)).mono ?_; rintro e w' ⟨er, s', q, rfl, f', b', F', hw', hm'⟩) | (go_at_call 48; refine (fits_ok _ _ (by assumption) (by assumption) _).mono ?_; rintro e w' ⟨rfl, rfl⟩) | go_in)
    all_goals first | go_ret2 | (go_ret3; go_wp2_with (first | (go_at_call 70; refine (tget_b (by assumption) (by assumption) (by assumption) (by first | omega | exact (uw_bd _).1) (by assumption)).mono ?_; rintro e w' ⟨x, er, s', q, dx, dx', rfl, f', b', F', hw', hm'⟩) | (go_at_call 71; refine (tput_b (by assumption) (by assumption) (by assumption) (by first | omega | exact (uw_bd _).1) (by first | omega | exact (uw_bd _).1) (by first | omega | exact (uw_bd _).2) (by assumption)).mono ?_; rintro e w' ⟨er, s', q, rfl, f', b', F', hw', hm'⟩)); all_goals go_ret2)
    all_goals refine ⟨_, _, _, ?_, ?_, ?_, rfl, ?_, ?_, _, by assumption, by assumption⟩
    all_goals first | assumption | (show (_ : Int) ≤ _; omega) | exact (uw_bd _).1 | exact (uw_bd _).2 | exact Bud.mono (by assumption) (by omega) | skip
    all_goals (unfold Hid at *; unfold rTake; rw [if_neg (by omega)])
    all_goals (try simp [uAdd, *])
    all_goals (first | omega | simp_all)

theorem give_b {t n : Nat} {F F0 : Nat → Prop} {s : St} {a p z : Int} {w w0 : World} (hw : Txw w t F s) (hf : Fits s) (hb : Bud s (n + 3)) (ha : 0 ≤ a) (hp : 0 ≤ p) (hp' : p ≤ 18446744073709551615) (hz : 0 ≤ z) (hm : Fr F0 w0 F w) :
    Calls Try.prog 33 #[.iface 31 (.pointer (some ⟨t, 0, none⟩)), .int .u64 a, .int .u64 p, .int .u64 z] w fun e w' =>
      ∃ er s', Hid (rGive s a p z = (er, s')) ∧ e = .returned (.int .i64 er) ∧ Lft t n F0 w0 s' w' := by
  by_cases hzz : z < 1 ∨ 16 < z
  · go_enter Try.func33, Try.ntmps33
    go_wp2_with (go_at_call 48; refine (fits_no _ _ (by assumption) _).mono ?_; rintro e w' ⟨rfl, rfl⟩)
    go_ret
    refine ⟨_, _, ?_, rfl, ?_, ?_, _, by assumption, by assumption⟩
    all_goals first | assumption | (show (_ : Int) ≤ _; omega) | exact (uw_bd _).1 | exact (uw_bd _).2 | exact Bud.mono (by assumption) (by omega) | skip
    unfold Hid; unfold rGive; rw [if_pos hzz]
  · obtain ⟨z1, z2⟩ : 1 ≤ z ∧ z ≤ 16 := by omega
    clear hzz
    go_enter Try.func33, Try.ntmps33
    go_wp2_with (first | (go_at_call 70; refine (tget_b (by assumption) (by assumption) (by assumption) (by first | omega | exact (uw_bd _).1) (by assumption)).mono ?_; rintro e w' ⟨x, er, s', q, dx, dx', rfl, f', b', F', hw', hm'⟩) | (go_at_call 71; refine (tput_b (by assumption) (by assumption) (by assumption) (by first | omega | exact (uw_bd _).1) (by first | omega | exact (uw_bd _).1) (by first | omega | exact (uw_bd _).2) (by assumption)).mono ?_; rintro e w' ⟨er, s', q, rfl, f', b', F', hw', hm'⟩) | (go_at_call 48; refine (fits_ok _ _ (by assumption) (by assumption) _).mono ?_; rintro e w' ⟨rfl, rfl⟩))
    all_goals go_ret
    all_goals refine ⟨_, _, ?_, rfl, ?_, ?_, _, by assumption, by assumption⟩
    all_goals first | assumption | (show (_ : Int) ≤ _; omega) | exact (uw_bd _).1 | exact (uw_bd _).2 | exact Bud.mono (by assumption) (by omega) | skip
    all_goals (unfold Hid at *; unfold rGive; rw [if_neg (by omega)])
    all_goals (try simp [uAdd, *])
    all_goals (first | omega | simp_all)
end Go.Proofs.Ytcohopobjppmaaa
