/- The document's room over its world, by contract: laying. -/
import Derived.Test.YtcgdpclhlepofaaTxW
import Derived.Test.YtcgdpclhlepofaaRoomFn
import Derived.Deep.LoopGhost
namespace Go.Proofs.Ytcgdpclhlepofaa
open Go.RowKit
set_option maxHeartbeats 2000000
set_option linter.unusedVariables false
set_option linter.unusedSimpArgs false

theorem layGo_e {k : Nat} {a : Int} {s : St} {er : Int} {s' : St} (h : sput s a 0 = (er, s')) : layGo (k + 1) a s = if (er != 0) = false then layGo k (uAdd a 1) s' else (er, s') := by rw [layGo, h]

theorem wlay_b {b n : Nat} {F F0 : Nat → Prop} {s : St} {a x y : Int} {w w0 : World} (hw : Wld w b F s) (hf : Fits s) (hb : Bud s (n + 18)) (ha : 0 ≤ a) (hx : 0 ≤ x) (hx' : x ≤ 18446744073709551615) (hy : 0 ≤ y) (hy' : y ≤ 18446744073709551615) (hxy : x ≤ y) (hm : Fr F0 w0 F w) :
    Calls Try.prog 46 #[.pointer (some ⟨b, 0, none⟩), .int .u64 a, .int .u64 x, .int .u64 y] w fun e w' => ∃ er s', Hid (rLay s a x y = (er, s')) ∧ e = .returned (.int .i64 er) ∧ LftW b n F0 w0 s' w' := by
  have hL : Hid (rLay s a x y = match sput s a x with
    | (e, s1) => if (e != 0) = false then
        (match sput s1 (uAdd a 1) y with
        | (e2, s2) => if (e2 != 0) = false then layGo 16 (uAdd (uAdd a 1) 1) s2 else (e2, s2))
      else (e, s1)) := Lib.hid (by unfold rLay; rw [if_neg (by omega)])
  go_enter Try.func46, Try.ntmps46
  go_wp2_with fail
  have hb : Bud s ((n + 17) + 1) := hb
  refine (wput_b hw hf hb ha hx hx' hm).mono ?_
  rintro e w1 ⟨e1, s1, q1, rfl, f1, b1, F1, hw1, hm1⟩
  clear hw hm hf hb
  by_cases he : e1 = 0
  case neg =>
    have hz : (e1 != 0) = true := by simpa using he
    have hq : Hid (rLay s a x y = (e1, s1)) := Lib.hid (by rw [hL.out, q1.out]; simp only; rw [if_neg (by simp [hz])])
    clear he q1
    go_wp2
    go_ret
    exact ⟨e1, s1, hq, rfl, f1, b1.mono (by omega), F1, hw1, hm1⟩
  subst he
  have b1 : Bud s1 ((n + 16) + 1) := b1
  go_wp2_with fail
  refine (wput_b hw1 f1 b1 (uw_bd _).1 hy hy' hm1).mono ?_
  rintro e w2 ⟨e2, s2, q2, rfl, f2, b2, F2, hw2, hm2⟩
  have q2 : Hid (sput s1 (uAdd a 1) y = (e2, s2)) := q2
  have hQ : Hid (rLay s a x y = if (e2 != 0) = false then layGo 16 (uAdd (uAdd a 1) 1) s2 else (e2, s2)) := Lib.hid (by rw [hL.out, q1.out]; simp only; rw [if_pos (by decide), q2.out])
  clear hw1 hm1 f1 b1 q1 q2 hL
  go_wp2_with fail
  go_loopg [9, 10] 16 (fun gk c9 c10 wr => ∃ (k : Nat) (e3 : Int) (s3 : St) (F3 : Nat → Prop), gk + k = 17 ∧ 1 ≤ k ∧ c10 = .int .u64 (k : Int) ∧ c9 = .int .i64 e3 ∧ Hid (rLay s a x y = if (e3 != 0) = false then layGo gk (uAdd (uAdd a 1) k) s3 else (e3, s3)) ∧ Fits s3 ∧ Bud s3 (n + gk) ∧ Wld wr b F3 s3 ∧ Fr F0 w0 F3 wr)
  case atStart => exact ⟨1, e2, s2, F2, rfl, by omega, rfl, rfl, hQ, f2, b2, hw2, hm2⟩
  case round =>
    obtain ⟨k, e3, s3, F3, hgk, hk1, rfl, rfl, hR, hf3, hb3, hw3, hm3⟩ := hrel
    have hgk' := Lib.hid hgk
    have hki : (k : Int) ≤ 17 := by omega
    clear hw2 hm2 f2 b2 hQ hgk
    by_cases he : e3 = 0
    case neg =>
      have hz : (e3 != 0) = true := by simpa using he
      have hz2 : (e3 == 0) = false := by simpa using he
      have hq : Hid (rLay s a x y = (e3, s3)) := Lib.hid (by rw [hR.out, if_neg (by simp [hz])])
      have hor : (k : Int) ≤ 16 ∨ 16 < (k : Int) := by omega
      clear he hR
      rcases hor with hor | hor
      all_goals
        go_wp2
        go_ret
        exact ⟨e3, s3, hq, rfl, hf3, hb3.mono (by omega), F3, hw3, hm3⟩
    subst he
    by_cases hlt : k ≤ 16
    · obtain ⟨m, rfl⟩ : ∃ m, gk = m + 1 := ⟨gk - 1, by have := hgk'.out; omega⟩
      have hb3 : Bud s3 ((n + m) + 1) := hb3
      have hki2 : (k : Int) ≤ 16 := by omega
      clear hlt
      go_wp2_with fail
      refine (wput_b hw3 hf3 hb3 (uw_bd _).1 (by omega) (by omega) hm3).mono ?_
      rintro e w4 ⟨e4, s4, q4, rfl, f4, b4, F4, hw4, hm4⟩
      have q4 : Hid (sput s3 (uAdd (uAdd a 1) k) 0 = (e4, s4)) := q4
      have hR4 : Hid (rLay s a x y = if (e4 != 0) = false then layGo m (uAdd (uAdd a 1) ((k + 1 : Nat) : Int)) s4 else (e4, s4)) := Lib.hid (by
        rw [hR.out, if_pos (by decide), layGo_e q4.out, uAdd_uAdd (uAdd a 1) k 1]; rfl)
      clear hw3 hm3 q4 hR
      go_wp2
      go_roundg m
      case measure => omega
      case rel => exact ⟨k + 1, e4, s4, F4, by have := hgk'.out; omega, by omega, by go_num, rfl, hR4, f4, b4, hw4, hm4⟩
    · obtain rfl : gk = 0 := by have := hgk'.out; omega
      have hki2 : 16 < (k : Int) := by omega
      have hq : Hid (rLay s a x y = (0, s3)) := Lib.hid (by rw [hR.out, if_pos (by decide)]; rfl)
      clear hlt hR
      go_wp2
      go_ret
      exact ⟨0, s3, hq, rfl, hf3, hb3, F3, hw3, hm3⟩
end Go.Proofs.Ytcgdpclhlepofaa
