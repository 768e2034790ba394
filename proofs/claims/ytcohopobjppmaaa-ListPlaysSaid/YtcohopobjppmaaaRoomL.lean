/- The program's room by its contracts: laying. -/
import Derived.Test.YtcohopobjppmaaaRoomU
namespace Go.Proofs.Ytcohopobjppmaaa
open Go.RowKit
set_option maxHeartbeats 2000000
set_option linter.unusedVariables false

theorem layGo_no {k : Nat} {a : Int} {s : St} {er : Int} {s' : St} (h : sput s a 0 = (er, s')) (he : (er != 0) = true) : layGo (k + 1) a s = (er, s') := by
  rw [layGo, h]; simp only; rw [if_neg (by simp [he])]
theorem layGo_ok {k : Nat} {a : Int} {s : St} {er : Int} {s' : St} (h : sput s a 0 = (er, s')) (he : (er != 0) = false) : layGo (k + 1) a s = layGo k (uAdd a 1) s' := by
  rw [layGo, h]; simp only; rw [if_pos he]

theorem lay_b {t n : Nat} {F F0 : Nat → Prop} {s : St} {a x y : Int} {w w0 : World} (hw : Txw w t F s) (hf : Fits s) (hb : Bud s (n + 18)) (ha : 0 ≤ a) (hx : 0 ≤ x) (hx' : x ≤ 18446744073709551615) (hy : 0 ≤ y) (hy' : y ≤ 18446744073709551615) (hm : Fr F0 w0 F w) :
    Calls Try.prog 20 #[.iface 31 (.pointer (some ⟨t, 0, none⟩)), .int .u64 a, .int .u64 x, .int .u64 y] w fun e w' =>
      ∃ er s', Hid (rLay s a x y = (er, s')) ∧ e = .returned (.int .i64 er) ∧ Lft t n F0 w0 s' w' := by
  by_cases hxy : y < x
  · have hr := Lib.hid (show rLay s a x y = (2, s) by simp [rLay, hxy])
    go_enter Try.func20, Try.ntmps20
    go_wp2
    go_ret
    exact ⟨_, _, hr, rfl, hf, hb.mono (by omega), _, hw, hm⟩
  · go_enter Try.func20, Try.ntmps20
    go_wp2_with (first | (go_at_call 70; refine (tget_b (by assumption) (by assumption) (by assumption) (by first | omega | exact (uw_bd _).1) (by assumption)).mono ?_; rintro e w' ⟨x, er, s', q, dx, dx', rfl, f', b', F', hw', hm'⟩) | (go_at_call 71; refine (tput_b (by assumption) (by assumption) (by assumption) (by first | omega | exact (uw_bd _).1) (by first | omega | exact (uw_bd _).1) (by first | omega | exact (uw_bd _).2) (by assumption)).mono ?_; rintro e w' ⟨er, s', q, rfl, f', b', F', hw', hm'⟩))
    · go_ret
      refine ⟨_, _, ?_, rfl, ?_, ?_, _, by assumption, by assumption⟩
      all_goals first | assumption | (show (_ : Int) ≤ _; omega) | exact (uw_bd _).1 | exact (uw_bd _).2 | exact Bud.mono (by assumption) (by omega) | skip
      unfold Hid at *; unfold rLay; rw [if_neg (by omega)]
      simp [*]
    · go_ret
      refine ⟨_, _, ?_, rfl, ?_, ?_, _, by assumption, by assumption⟩
      all_goals first | assumption | (show (_ : Int) ≤ _; omega) | exact (uw_bd _).1 | exact (uw_bd _).2 | exact Bud.mono (by assumption) (by omega) | skip
      unfold Hid at *; unfold rLay; rw [if_neg (by omega)]
      simp [uAdd, *]
    · rename_i hz _ _
      have hL : Hid (rLay s a x y = layGo 16 (uAdd (IntKind.u64.wrap (a + 1)) 1) s') := by
        unfold Hid at *; unfold rLay; rw [if_neg (by omega)]
        simp [uAdd, *]
      have hzz := Lib.hid hz
      clear hz
      go_loopw [1, 35] (fun c1 c35 wr => ∃ (k : Nat) (av : Int) (s1 : St) (F1 : Nat → Prop), k ≤ 16 ∧ c35 = .int .i64 k ∧ c1 = .int .u64 av ∧ Hid (rLay s a x y = layGo (16 - k) (uAdd av 1) s1) ∧ Fits s1 ∧ Bud s1 (n + (16 - k)) ∧ Txw wr t F1 s1 ∧ Fr F0 w0 F1 wr) (fun _ c35 _ => 16 - (intOf c35).toNat)
      case atStart => exact ⟨0, _, s', _, by omega, rfl, rfl, hL, by assumption, Bud.mono (by assumption) (by omega), by assumption, by assumption⟩
      case round =>
        obtain ⟨k, av, s1, F1, hk, rfl, rfl, hL1, hf1, hb1, hw1, hm1⟩ := hrel
        by_cases hlt : k < 16
        · obtain ⟨m, hmk⟩ : ∃ m, 16 - k = m + 1 := ⟨15 - k, by omega⟩
          rw [hmk] at hL1 hb1
          have hb1 : Bud s1 ((n + m) + 1) := hb1
          have hmk' := Lib.hid hmk
          clear hmk
          go_wp2_with (first | (go_at_call 70; refine (tget_b (by assumption) (by assumption) (by assumption) (by first | omega | exact (uw_bd _).1) (by assumption)).mono ?_; rintro e w' ⟨x, er, s', q, dx, dx', rfl, f', b', F', hw', hm'⟩) | (go_at_call 71; refine (tput_b (by assumption) (by assumption) (by assumption) (by first | omega | exact (uw_bd _).1) (by first | omega | exact (uw_bd _).1) (by first | omega | exact (uw_bd _).2) (by assumption)).mono ?_; rintro e w' ⟨er, s', q, rfl, f', b', F', hw', hm'⟩))
          · go_ret
            refine ⟨_, _, ?_, rfl, ?_, ?_, _, by assumption, by assumption⟩
            all_goals first | assumption | (show (_ : Int) ≤ _; omega) | exact (uw_bd _).1 | exact (uw_bd _).2 | exact Bud.mono (by assumption) (by omega) | skip
            exact Lib.hid (hL1.out.trans (layGo_no (by unfold Hid at *; assumption) (by assumption)))
          · go_roundw
            case rel => exact ⟨k + 1, _, _, _, by omega, by go_num, rfl, Lib.hid (hL1.out.trans ((layGo_ok (by unfold Hid at *; assumption) (by assumption)).trans (by rw [show 16 - (k + 1) = m by have := hmk'.out; omega]; rfl))), by assumption, Bud.mono (by assumption) (by have := hmk'.out; omega), by assumption, by assumption⟩
            case measure => simp [intOf]; omega
        · obtain rfl : k = 16 := by omega
          go_wp2
          go_ret
          exact ⟨0, s1, Lib.hid (hL1.out.trans rfl), rfl, hf1, hb1, F1, hw1, hm1⟩
end Go.Proofs.Ytcohopobjppmaaa
