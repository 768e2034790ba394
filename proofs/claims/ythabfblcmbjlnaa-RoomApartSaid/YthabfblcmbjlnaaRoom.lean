/- The document's room by its contracts: each call is the plain function of the words. -/
import Derived.Test.YthabfblcmbjlnaaTx
import Derived.Test.YthabfblcmbjlnaaRoomFn
namespace Go.Proofs.Ythabfblcmbjlnaa
open Go.RowKit
set_option maxHeartbeats 2000000
set_option linter.unusedVariables false

theorem uw_bd (x : Int) : 0 ≤ IntKind.u64.wrap x ∧ IntKind.u64.wrap x ≤ 18446744073709551615 := by rw [wrap_u64_mod]; omega

theorem wtake_b {b g cap : Nat} {s : St} {a z : Int} {w w0 : World} (hw : Wld w b g cap s) (hf : Fits s) (ha : 0 ≤ a) (hz : 0 ≤ z) (hm : Mod b g w0 w) :
    Calls Try.prog 16 #[.pointer (some ⟨b, 0, none⟩), .int .u64 a, .int .u64 z] w fun e w' =>
      ∃ x er s', Hid (rTake s a z = (x, er, s')) ∧ 0 ≤ x ∧ x ≤ 18446744073709551615 ∧ Fits s' ∧ e = .returned (.tuple #[.int .u64 x, .int .i64 er]) ∧ Wld w' b g cap s' ∧ Mod b g w0 w' := by
  go_enter Try.func16, Try.ntmps16
  go_wp2_with (first | (go_at_call 24; refine (wget_b (by assumption) (by assumption) (by first | omega | exact (uw_bd _).1) (by assumption)).mono ?_; rintro e w' ⟨x, er, s', q, dx, dx', f', rfl, hw', hm'⟩) | (go_at_call 23; refine (wput_b (by assumption) (by assumption) (by first | omega | exact (uw_bd _).1) (by first | omega | exact (uw_bd _).1) (by first | omega | exact (uw_bd _).2) (by assumption)).mono ?_; rintro e w' ⟨er, s', q, f', rfl, hw', hm'⟩))
  all_goals go_ret2
  all_goals refine ⟨_, _, _, ?_, ?_, ?_, ?_, rfl, by assumption, by assumption⟩
  all_goals first | assumption | (show (_ : Int) ≤ _; omega) | exact (uw_bd _).1 | exact (uw_bd _).2 | skip
  all_goals (unfold Hid at *; unfold rTake)
  all_goals first | rw [if_pos (by omega)] | rw [if_neg (by omega)]
  all_goals (try simp [uAdd, *])
  all_goals (try omega)

theorem wgive_b {b g cap : Nat} {s : St} {a p z : Int} {w w0 : World} (hw : Wld w b g cap s) (hf : Fits s) (ha : 0 ≤ a) (hp : 0 ≤ p) (hp' : p ≤ 18446744073709551615) (hz : 0 ≤ z) (hm : Mod b g w0 w) :
    Calls Try.prog 17 #[.pointer (some ⟨b, 0, none⟩), .int .u64 a, .int .u64 p, .int .u64 z] w fun e w' =>
      ∃ er s', Hid (rGive s a p z = (er, s')) ∧ Fits s' ∧ e = .returned (.int .i64 er) ∧ Wld w' b g cap s' ∧ Mod b g w0 w' := by
  go_enter Try.func17, Try.ntmps17
  go_wp2_with (first | (go_at_call 24; refine (wget_b (by assumption) (by assumption) (by first | omega | exact (uw_bd _).1) (by assumption)).mono ?_; rintro e w' ⟨x, er, s', q, dx, dx', f', rfl, hw', hm'⟩) | (go_at_call 23; refine (wput_b (by assumption) (by assumption) (by first | omega | exact (uw_bd _).1) (by first | omega | exact (uw_bd _).1) (by first | omega | exact (uw_bd _).2) (by assumption)).mono ?_; rintro e w' ⟨er, s', q, f', rfl, hw', hm'⟩))
  all_goals go_ret
  all_goals refine ⟨_, _, ?_, ?_, rfl, by assumption, by assumption⟩
  all_goals first | assumption | (show (_ : Int) ≤ _; omega) | exact (uw_bd _).1 | exact (uw_bd _).2 | skip
  all_goals (unfold Hid at *; unfold rGive)
  all_goals first | rw [if_pos (by omega)] | rw [if_neg (by omega)]
  all_goals (try simp [uAdd, *])
  all_goals (try omega)

theorem wfree_b {b g cap : Nat} {s : St} {a : Int} {w w0 : World} (hw : Wld w b g cap s) (hf : Fits s) (ha : 0 ≤ a) (hm : Mod b g w0 w) :
    Calls Try.prog 18 #[.pointer (some ⟨b, 0, none⟩), .int .u64 a] w fun e w' =>
      ∃ x er s', Hid (rLeft s a = (x, er, s')) ∧ 0 ≤ x ∧ x ≤ 18446744073709551615 ∧ Fits s' ∧ e = .returned (.tuple #[.int .u64 x, .int .i64 er]) ∧ Wld w' b g cap s' ∧ Mod b g w0 w' := by
  go_enter Try.func18, Try.ntmps18
  go_wp2_with (first | (go_at_call 24; refine (wget_b (by assumption) (by assumption) (by first | omega | exact (uw_bd _).1) (by assumption)).mono ?_; rintro e w' ⟨x, er, s', q, dx, dx', f', rfl, hw', hm'⟩) | (go_at_call 23; refine (wput_b (by assumption) (by assumption) (by first | omega | exact (uw_bd _).1) (by first | omega | exact (uw_bd _).1) (by first | omega | exact (uw_bd _).2) (by assumption)).mono ?_; rintro e w' ⟨er, s', q, f', rfl, hw', hm'⟩))
  all_goals go_ret2
  all_goals refine ⟨_, _, _, ?_, ?_, ?_, ?_, rfl, by assumption, by assumption⟩
  all_goals first | assumption | (show (_ : Int) ≤ _; omega) | exact (uw_bd _).1 | exact (uw_bd _).2 | skip
  all_goals (unfold Hid at *; unfold rLeft)
  all_goals (try simp [uAdd, *])
  all_goals (try omega)
end Go.Proofs.Ythabfblcmbjlnaa
