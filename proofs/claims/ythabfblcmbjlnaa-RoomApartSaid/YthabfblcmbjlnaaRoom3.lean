/- The room's laying, the program's and the document's: one plain function of the words. -/
import Derived.Test.YthabfblcmbjlnaaRoom2
namespace Go.Proofs.Ythabfblcmbjlnaa
open Go.RowKit
set_option maxHeartbeats 2000000
set_option linter.unusedVariables false

theorem layGo_no {k : Nat} {a : Int} {s : St} {er : Int} {s' : St} (h : sput s a 0 = (er, s')) (he : (er != 0) = true) : layGo (k + 1) a s = (er, s') := by
  rw [layGo, h]; simp only; rw [if_neg (by simp [he])]
theorem layGo_ok {k : Nat} {a : Int} {s : St} {er : Int} {s' : St} (h : sput s a 0 = (er, s')) (he : (er != 0) = false) : layGo (k + 1) a s = layGo k (uAdd a 1) s' := by
  rw [layGo, h]; simp only; rw [if_pos he]

theorem lay_b {t b g cap : Nat} {s : St} {a x y : Int} {w w0 : World} (hw : Txw w t b g cap s) (hf : Fits s) (ha : 0 ≤ a) (hx : 0 ≤ x) (hx' : x ≤ 18446744073709551615) (hy : 0 ≤ y) (hy' : y ≤ 18446744073709551615) (hm : Mod b g w0 w) :
    Calls Try.prog 11 #[.iface 24 (.pointer (some ⟨t, 0, none⟩)), .int .u64 a, .int .u64 x, .int .u64 y] w fun e w' =>
      ∃ er s', Hid (rLay s a x y = (er, s')) ∧ Fits s' ∧ e = .returned (.int .i64 er) ∧ Txw w' t b g cap s' ∧ Mod b g w0 w' := by
  by_cases hxy : y < x
  · have hr := Lib.hid (show rLay s a x y = (2, s) by simp [rLay, hxy])
    go_enter Try.func11, Try.ntmps11
    go_wp2
    go_ret
    exact ⟨_, _, hr, hf, rfl, hw, hm⟩
  · go_enter Try.func11, Try.ntmps11
    go_wp2_with (first | (go_at_call 40; refine (tget_b (by assumption) (by assumption) (by first | omega | exact (uw_bd _).1) (by assumption)).mono ?_; rintro e w' ⟨x, er, s', q, dx, dx', f', rfl, hw', hm'⟩) | (go_at_call 41; refine (tput_b (by assumption) (by assumption) (by first | omega | exact (uw_bd _).1) (by first | omega | exact (uw_bd _).1) (by first | omega | exact (uw_bd _).2) (by assumption)).mono ?_; rintro e w' ⟨er, s', q, f', rfl, hw', hm'⟩))
    · go_ret
      refine ⟨_, _, ?_, ?_, rfl, by assumption, by assumption⟩
      all_goals first | assumption | (show (_ : Int) ≤ _; omega) | exact (uw_bd _).1 | exact (uw_bd _).2 | skip
      unfold Hid at *; unfold rLay; rw [if_neg (by omega)]
      simp [*]
    · go_ret
      refine ⟨_, _, ?_, ?_, rfl, by assumption, by assumption⟩
      all_goals first | assumption | (show (_ : Int) ≤ _; omega) | exact (uw_bd _).1 | exact (uw_bd _).2 | skip
      unfold Hid at *; unfold rLay; rw [if_neg (by omega)]
      simp [uAdd, *]
    · rename_i hz _ _
      have hL : Hid (rLay s a x y = layGo 16 (uAdd (IntKind.u64.wrap (a + 1)) 1) s') := by
        unfold Hid at *; unfold rLay; rw [if_neg (by omega)]
        simp [uAdd, *]
      have hzz := Lib.hid hz
      clear hz
      go_loopw [1, 35] (fun c1 c35 wr => ∃ (k : Nat) (av : Int) (s1 : St), k ≤ 16 ∧ c35 = .int .i64 k ∧ c1 = .int .u64 av ∧ Hid (rLay s a x y = layGo (16 - k) (uAdd av 1) s1) ∧ Fits s1 ∧ Txw wr t b g cap s1 ∧ Mod b g w0 wr) (fun _ c35 _ => 16 - (intOf c35).toNat)
      case atStart => exact ⟨0, _, s', by omega, rfl, rfl, hL, by assumption, by assumption, by assumption⟩
      case round =>
        obtain ⟨k, av, s1, hk, rfl, rfl, hL1, hf1, hw1, hm1⟩ := hrel
        by_cases hlt : k < 16
        · obtain ⟨m, hmk⟩ : ∃ m, 16 - k = m + 1 := ⟨15 - k, by omega⟩
          rw [hmk] at hL1
          have hmk' := Lib.hid hmk
          clear hmk
          go_wp2_with (first | (go_at_call 40; refine (tget_b (by assumption) (by assumption) (by first | omega | exact (uw_bd _).1) (by assumption)).mono ?_; rintro e w' ⟨x, er, s', q, dx, dx', f', rfl, hw', hm'⟩) | (go_at_call 41; refine (tput_b (by assumption) (by assumption) (by first | omega | exact (uw_bd _).1) (by first | omega | exact (uw_bd _).1) (by first | omega | exact (uw_bd _).2) (by assumption)).mono ?_; rintro e w' ⟨er, s', q, f', rfl, hw', hm'⟩))
          · go_ret
            refine ⟨_, _, ?_, ?_, rfl, by assumption, by assumption⟩
            all_goals first | assumption | (show (_ : Int) ≤ _; omega) | exact (uw_bd _).1 | exact (uw_bd _).2 | skip
            exact Lib.hid (hL1.out.trans (layGo_no (by unfold Hid at *; assumption) (by assumption)))
          · go_roundw
            case rel => exact ⟨k + 1, _, _, by omega, by go_num, rfl, Lib.hid (hL1.out.trans ((layGo_ok (by unfold Hid at *; assumption) (by assumption)).trans (by rw [show 16 - (k + 1) = m by have := hmk'.out; omega]; rfl))), by assumption, by assumption, by assumption⟩
            case measure => simp [intOf]; omega
        · obtain rfl : k = 16 := by omega
          go_wp2
          go_ret
          exact ⟨0, s1, Lib.hid (hL1.out.trans rfl), hf1, rfl, hw1, hm1⟩

/-- what is still to be laid, behind an answer -/
def layRest (er : Int) (k : Nat) (a : Int) (s : St) : Int × St := if (er != 0) = false then layGo k a s else (er, s)
theorem layRest_step {k : Nat} {a : Int} {s : St} {er : Int} {s' : St} (h : sput s a 0 = (er, s')) : layRest 0 (k + 1) a s = layRest er k (uAdd a 1) s' := by
  unfold layRest
  rw [if_pos (by decide)]
  cases he : (er != 0) with
  | true => rw [if_neg (by simp)]; exact layGo_no h he
  | false => rw [if_pos rfl]; exact layGo_ok h he

theorem wlay_b {b g cap : Nat} {s : St} {a x y : Int} {w w0 : World} (hw : Wld w b g cap s) (hf : Fits s) (ha : 0 ≤ a) (hx : 0 ≤ x) (hx' : x ≤ 18446744073709551615) (hy : 0 ≤ y) (hy' : y ≤ 18446744073709551615) (hm : Mod b g w0 w) :
    Calls Try.prog 15 #[.pointer (some ⟨b, 0, none⟩), .int .u64 a, .int .u64 x, .int .u64 y] w fun e w' =>
      ∃ er s', Hid (rLay s a x y = (er, s')) ∧ Fits s' ∧ e = .returned (.int .i64 er) ∧ Wld w' b g cap s' ∧ Mod b g w0 w' := by
  by_cases hxy : y < x
  · have hr := Lib.hid (show rLay s a x y = (2, s) by simp [rLay, hxy])
    go_enter Try.func15, Try.ntmps15
    go_wp2
    go_ret
    exact ⟨_, _, hr, hf, rfl, hw, hm⟩
  · go_enter Try.func15, Try.ntmps15
    go_wp2_with (first | (go_at_call 24; refine (wget_b (by assumption) (by assumption) (by first | omega | exact (uw_bd _).1) (by assumption)).mono ?_; rintro e w' ⟨x, er, s', q, dx, dx', f', rfl, hw', hm'⟩) | (go_at_call 23; refine (wput_b (by assumption) (by assumption) (by first | omega | exact (uw_bd _).1) (by first | omega | exact (uw_bd _).1) (by first | omega | exact (uw_bd _).2) (by assumption)).mono ?_; rintro e w' ⟨er, s', q, f', rfl, hw', hm'⟩))
    · go_ret
      refine ⟨_, _, ?_, ?_, rfl, by assumption, by assumption⟩
      all_goals first | assumption | (show (_ : Int) ≤ _; omega) | exact (uw_bd _).1 | exact (uw_bd _).2 | skip
      unfold Hid at *; unfold rLay; rw [if_neg (by omega)]
      simp [*]
    · have hL : Hid (rLay s a x y = layRest er 16 (uAdd (uAdd a 1) 1) s') := by
        unfold Hid at *; unfold rLay layRest; rw [if_neg (by omega)]
        simp [uAdd, *]
      go_loopw [9, 10] (fun c9 c10 wr => ∃ (k : Nat) (e1 : Int) (s1 : St), 1 ≤ k ∧ k ≤ 17 ∧ c10 = .int .u64 k ∧ c9 = .int .i64 e1 ∧ Hid (rLay s a x y = layRest e1 (17 - k) (uAdd (uAdd a 1) k) s1) ∧ Fits s1 ∧ Wld wr b g cap s1 ∧ Mod b g w0 wr) (fun _ c10 _ => 17 - (intOf c10).toNat)
      case atStart => exact ⟨1, er, s', by omega, by omega, rfl, rfl, hL, by assumption, by assumption, by assumption⟩
      case round =>
        obtain ⟨k, e1, s1, hk1, hk, rfl, rfl, hL1, hf1, hw1, hm1⟩ := hrel
        by_cases hz : e1 = 0
        · subst hz
          by_cases hlt : k ≤ 16
          · obtain ⟨m, hmk⟩ : ∃ m, 17 - k = m + 1 := ⟨16 - k, by omega⟩
            rw [hmk] at hL1
            have hmk' := Lib.hid hmk
            clear hmk
            go_wp2_with (first | (go_at_call 24; refine (wget_b (by assumption) (by assumption) (by first | omega | exact (uw_bd _).1) (by assumption)).mono ?_; rintro e w' ⟨x, er, s', q, dx, dx', f', rfl, hw', hm'⟩) | (go_at_call 23; refine (wput_b (by assumption) (by assumption) (by first | omega | exact (uw_bd _).1) (by first | omega | exact (uw_bd _).1) (by first | omega | exact (uw_bd _).2) (by assumption)).mono ?_; rintro e w' ⟨er, s', q, f', rfl, hw', hm'⟩))
            go_roundw
            case rel => exact ⟨k + 1, _, _, by omega, by omega, by go_num, rfl, Lib.hid (hL1.out.trans ((layRest_step (by unfold Hid at *; assumption)).trans (by rw [show 17 - (k + 1) = m by have := hmk'.out; omega, uAdd_uAdd]; congr 1))), by assumption, by assumption, by assumption⟩
            case measure => simp [intOf]; omega
          · obtain rfl : k = 17 := by omega
            go_wp2
            go_ret
            exact ⟨0, s1, Lib.hid (hL1.out.trans rfl), hf1, rfl, hw1, hm1⟩
        · have hz1 : (e1 == 0) = false := by simpa using hz
          have hz2 : (e1 != 0) = true := by simpa using hz
          go_wp2
          all_goals go_ret
          all_goals exact ⟨e1, s1, Lib.hid (hL1.out.trans (by unfold layRest; rw [if_neg (by simp [hz2])])), hf1, rfl, hw1, hm1⟩
end Go.Proofs.Ythabfblcmbjlnaa
