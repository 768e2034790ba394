/- The queue by its contracts: made, a word put in, taken out, looked at. -/
import Derived.Test.YtcgdpclhlepofaaQuA
import Derived.Deep.DeepCutAuto
namespace Go.Proofs.Ytcgdpclhlepofaa
open Go.RowKit
set_option maxHeartbeats 4000000
set_option linter.unusedVariables false
set_option linter.unusedSimpArgs false

theorem quput_b {t n : Nat} {F F0 : Nat → Prop} {s : St} {a p x : Int} {w w0 : World} (hw : Txw w t F s) (hf : Fits s) (hb : Bud s (n + 11)) (ha : 0 ≤ a) (hp : 0 ≤ p) (hp' : p ≤ 18446744073709551615) (hx : 0 ≤ x) (hx' : x ≤ 18446744073709551615) (hm : Fr F0 w0 F w) :
    Calls Try.prog 19 #[.iface 26 (.pointer (some ⟨t, 0, none⟩)), .int .u64 a, .int .u64 p, .int .u64 x] w fun e w' => ∃ er s', Hid (qPut s a p x = (er, s')) ∧ e = .returned (.int .i64 er) ∧ Lft t n F0 w0 s' w' := by
  go_enter Try.func19, Try.ntmps19
  go_wp2_with fail
  refine (take_b (n := n + 7) hw hf (hb.mono (by omega)) ha (by omega) hm).mono ?_
  rintro e w1 ⟨y, e1, s1, q1, dy, dy', rfl, f1, b1, F1, hw1, hm1⟩
  have hQ := Qb.new hw1 e1
  have hmQ := hm1.alloc (.cells #[.iface 26 (.pointer (some ⟨t, 0, none⟩)), .int .i64 e1] 74)
  have hE : w0.heap.size ≤ w1.heap.size := hm1.size
  have dE := hQ.cell
  have K1 := Lib.hid q1.out
  clear hw hm hf hb q1 hw1 hm1
  go_wp2_with fail
  generalize w1.alloc (.cells #[.iface 26 (.pointer (some ⟨t, 0, none⟩)), .int .i64 e1] 74) = w2 at *
  generalize w1.heap.size = bb at *
  go_wp2_with (first | (go_at_call 43; refine (qget_b (by assumption) (by assumption) (by assumption) (by first | omega | exact (uw_bd _).1) (by assumption) (.inr (by assumption))).mono ?_; rintro _ w' ⟨x', e', s', q', dx, dx', rfl, f', b', F', hQ', hm'⟩; have dE' := hQ'.cell) | (go_at_call 42; refine (qput_b (by assumption) (by assumption) (by assumption) (by first | omega | exact (uw_bd _).1) (by first | omega | exact (uw_bd _).1) (by first | omega | exact (uw_bd _).2) (by assumption) (.inr (by assumption))).mono ?_; rintro _ w' ⟨e', s', q', rfl, f', b', F', hQ', hm'⟩; have dE' := hQ'.cell))
  all_goals go_ret
  all_goals refine ⟨_, _, ?_, rfl, ?_, ?_, _, Qb.tx (by assumption), by assumption⟩
  all_goals first | assumption | exact Qb.tx (by assumption) | (show (_ : Int) ≤ _; omega) | exact (uw_bd _).1 | exact (uw_bd _).2 | exact Bud.mono (by assumption) (by omega) | skip
  all_goals (unfold Hid at *; unfold qPut)
  all_goals (simp only [uAdd, *])
  all_goals (try simp [*])

theorem qLayGo_step (q : Int) (n : Nat) (k e : Int) (s : St) {e1 : Int} {s1 : St} (h : bput e s (uAdd q k) 0 = (e1, s1)) : qLayGo q (n + 1) k e s = qLayGo q n (k + 1) e1 s1 := by rw [qLayGo, h]
theorem qunew_b {t n : Nat} {F F0 : Nat → Prop} {s : St} {a : Int} {w w0 : World} (hw : Txw w t F s) (hf : Fits s) (hb : Bud s (n + 7)) (ha : 0 ≤ a) (hm : Fr F0 w0 F w) :
    Calls Try.prog 31 #[.iface 26 (.pointer (some ⟨t, 0, none⟩)), .int .u64 a] w fun e w' => ∃ x er s', Hid (qNew s a = (x, er, s')) ∧ 0 ≤ x ∧ x ≤ 18446744073709551615 ∧ e = .returned (.tuple #[.int .u64 x, .int .i64 er]) ∧ Lft t n F0 w0 s' w' := by
  go_enter Try.func31, Try.ntmps31
  go_wp2_with fail
  refine (take_b (n := n + 3) hw hf (hb.mono (by omega)) ha (by omega) hm).mono ?_
  rintro e w1 ⟨y, e1, s1, q1, dy, dy', rfl, f1, b1, F1, hw1, hm1⟩
  have hQ := Qb.new hw1 e1
  have hmQ := hm1.alloc (.cells #[.iface 26 (.pointer (some ⟨t, 0, none⟩)), .int .i64 e1] 74)
  have hE : w0.heap.size ≤ w1.heap.size := hm1.size
  have hL : Hid (qNew s a = match qLayGo y 3 0 e1 s1 with | (e3, s3) => if (e3 != 0) = false then (y, 0, s3) else (0, e3, s3)) := Lib.hid (by unfold qNew; rw [q1.out])
  clear hw hm hf hb q1 hw1 hm1
  go_wp2_with fail
  generalize w1.alloc (.cells #[.iface 26 (.pointer (some ⟨t, 0, none⟩)), .int .i64 e1] 74) = w2 at *
  generalize w1.heap.size = bb at *
  go_loopg [20] 3 (fun gk c20 wr => ∃ (k : Nat) (e2 : Int) (s2 : St) (F2 : Nat → Prop), gk + k = 3 ∧ c20 = .int .u64 (k : Int) ∧ Hid (qLayGo y 3 0 e1 s1 = qLayGo y gk k e2 s2) ∧ Fits s2 ∧ Bud s2 (n + gk) ∧ Qb wr t bb F2 s2 e2 ∧ Fr F0 w0 F2 wr)
  case atStart => exact ⟨0, e1, s1, F1, rfl, rfl, Lib.hid rfl, f1, b1, hQ, hmQ⟩
  case round =>
    obtain ⟨k, e2, s2, F2, hk, rfl, hL1, hf1, hb1, hQ1, hm1⟩ := hrel
    clear hQ hmQ b1 f1
    by_cases hlt : k < 3
    · obtain ⟨m, rfl⟩ : ∃ m, gk = m + 1 := ⟨gk - 1, by omega⟩
      have hb1 : Bud s2 ((n + m) + 1) := hb1
      have hk' := Lib.hid hk
      clear hk
      have hku : (k : Int) < 3 := by omega
      go_wp2_with (first | (go_at_call 43; refine (qget_b (by assumption) (by assumption) (by assumption) (by first | omega | exact (uw_bd _).1) (by assumption) (.inr (by assumption))).mono ?_; rintro _ w' ⟨x', e', s', q', dx, dx', rfl, f', b', F', hQ', hm'⟩; have dE' := hQ'.cell) | (go_at_call 42; refine (qput_b (by assumption) (by assumption) (by assumption) (by first | omega | exact (uw_bd _).1) (by first | omega | exact (uw_bd _).1) (by first | omega | exact (uw_bd _).2) (by assumption) (.inr (by assumption))).mono ?_; rintro _ w' ⟨e', s', q', rfl, f', b', F', hQ', hm'⟩; have dE' := hQ'.cell))
      go_roundg m
      case measure => omega
      case rel => exact ⟨k + 1, _, _, _, by have := hk'.out; omega, by go_num, Lib.hid (hL1.out.trans (qLayGo_step _ _ _ _ _ q'.out)), by assumption, by assumption, by assumption, by assumption⟩
    · obtain rfl : k = 3 := by omega
      obtain rfl : gk = 0 := by omega
      have hc := hQ1.cell
      have hq : Hid (qNew s a = if (e2 != 0) = false then (y, 0, s2) else (0, e2, s2)) := Lib.hid (by rw [hL.out, hL1.out]; rfl)
      have hT := Lib.hid hQ1.tx
      have hM := Lib.hid hm1
      clear hQ1 hm1 hk
      by_cases he : e2 = 0
      · subst he
        go_wp2
        go_ret2
        exact ⟨y, 0, s2, hq, dy, dy', rfl, hf1, hb1, F2, hT.out, hM.out⟩
      · have hz : (e2 != 0) = true := by simpa using he
        have hq' : Hid (qNew s a = (0, e2, s2)) := Lib.hid (by rw [hq.out, if_neg (by simp [hz])])
        clear he
        go_wp2
        go_quiet (fail)
        go_wp2
        go_ret2
        exact ⟨0, e2, s2, hq', by omega, by omega, rfl, hf1, hb1, F2, hT.out.drewN _, hM.out.drewN _⟩

theorem qulen_b {t n : Nat} {F F0 : Nat → Prop} {s : St} {p : Int} {w w0 : World} (hw : Txw w t F s) (hf : Fits s) (hb : Bud s (n + 1)) (hp : 0 ≤ p) (hp' : p ≤ 18446744073709551615) (hm : Fr F0 w0 F w) :
    Calls Try.prog 26 #[.iface 26 (.pointer (some ⟨t, 0, none⟩)), .int .u64 p] w fun e w' => ∃ x er s', Hid (qLen s p = (x, er, s')) ∧ 0 ≤ x ∧ x ≤ 18446744073709551615 ∧ e = .returned (.tuple #[.int .u64 x, .int .i64 er]) ∧ Lft t n F0 w0 s' w' := by
  go_enter Try.func26, Try.ntmps26
  go_wp2_with fail
  refine (tget_b hw hf hb (uw_bd _).1 hm).mono ?_
  rintro e w' ⟨x, er, s', q, dx, dx', rfl, f', b', F', hw', hm'⟩
  clear hw hm
  go_wp2
  go_ret2
  exact ⟨x, er, s', q, dx, dx', rfl, f', b', F', hw', hm'⟩

theorem qutake_b {t n : Nat} {F F0 : Nat → Prop} {s : St} {a p : Int} {w w0 : World} (hw : Txw w t F s) (hf : Fits s) (hb : Bud s (n + 10)) (ha : 0 ≤ a) (hp : 0 ≤ p) (hp' : p ≤ 18446744073709551615) (hm : Fr F0 w0 F w) :
    Calls Try.prog 23 #[.iface 26 (.pointer (some ⟨t, 0, none⟩)), .int .u64 a, .int .u64 p] w fun e w' => ∃ x bo er s', Hid (qTake s a p = (x, bo, er, s')) ∧ 0 ≤ x ∧ x ≤ 18446744073709551615 ∧ e = .returned (.tuple #[.int .u64 x, .bool bo, .int .i64 er]) ∧ Lft t n F0 w0 s' w' := by
  go_enter Try.func23, Try.ntmps23
  have hQ := Qb.new hw 0
  have hmQ := hm.alloc (.cells #[.iface 26 (.pointer (some ⟨t, 0, none⟩)), .int .i64 0] 74)
  have hE : w0.heap.size ≤ w.heap.size := hm.size
  clear hw hm
  go_wp2_with fail
  generalize w.alloc (.cells #[.iface 26 (.pointer (some ⟨t, 0, none⟩)), .int .i64 0] 74) = w2 at *
  generalize w.heap.size = bb at *
  have hb : Bud s ((n + 9) + 1) := hb
  refine (qget_b hQ hf hb hp hmQ (.inr hE)).mono ?_
  rintro _ w1 ⟨x1, e1, s1, q1, dx, dx', rfl, f1, b1, F1, hQ1, hm1⟩
  have dE := hQ1.cell
  clear hQ hmQ hf hb
  by_cases he : e1 = 0
  case neg =>
    have hz : (e1 != 0) = true := by simpa using he
    have hq : Hid (qTake s a p = (0, false, e1, s1)) := Lib.hid (by unfold qTake; rw [q1.out]; simp only; rw [if_pos (.inl hz)])
    have hT := Lib.hid hQ1.tx
    have hM := Lib.hid hm1
    clear he hQ1 hm1 q1
    go_wp2
    go_quiet (fail)
    go_wp2
    go_ret3
    exact ⟨0, false, e1, s1, hq, by omega, by omega, rfl, f1, b1.mono (by omega), F1, hT.out.drewN _, hM.out.drewN _⟩
  subst he
  by_cases h0 : x1 = 0
  · have hz : (x1 == 0) = true := by simpa using h0
    have hq : Hid (qTake s a p = (0, false, 0, s1)) := Lib.hid (by unfold qTake; rw [q1.out]; simp only; rw [if_pos (.inr hz)])
    have hT := Lib.hid hQ1.tx
    have hM := Lib.hid hm1
    clear h0 hQ1 hm1 q1
    go_wp2
    go_quiet (fail)
    go_wp2
    go_ret3
    exact ⟨0, false, 0, s1, hq, by omega, by omega, rfl, f1, b1.mono (by omega), F1, hT.out.drewN _, hM.out.drewN _⟩
  have hz : (x1 == 0) = false := by simpa using h0
  have hq : Hid (qTake s a p = match bget 0 s1 (IntKind.u64.wrap (x1 - 1)) with
    | (x, e1, s1) => match bget e1 s1 (uAdd (IntKind.u64.wrap (x1 - 1)) 1) with
    | (bh, e2, s2) => match bput e2 s2 p bh with
    | (e3, s3) => match (if (bh == 0) = true then bput e3 s3 (uAdd p 1) 0 else (e3, s3)) with
    | (e4, s4) => match bget e4 s4 (uAdd p 2) with
    | (c, e5, s5) => match bput e5 s5 (uAdd p 2) (IntKind.u64.wrap (c - 1)) with
    | (e6, s6) => match (if (e6 == 0) = true then rGive s6 a (IntKind.u64.wrap (x1 - 1)) 2 else (e6, s6)) with
    | (e7, s7) => if (e7 != 0) = true then (0, false, e7, s7) else (x, true, 0, s7)) := Lib.hid (by unfold qTake; rw [q1.out]; simp only; rw [if_neg (by simp [hz])])
  clear h0 q1
  have ux := uw_bd (x1 - 1)
  obtain ⟨ux1, ux2⟩ := ux
  go_wp2_with fail
  obtain ⟨nn, hnn⟩ : ∃ nn, IntKind.u64.wrap (x1 - 1) = nn := ⟨_, rfl⟩
  rw [hnn] at hq ux1 ux2 ⊢
  clear hnn
  refine (qget_b hQ1 f1 b1 ux1 hm1 (.inr hE)).mono ?_
  rintro _ w3 ⟨x3, e3, s3, q3, dx3, dx3', rfl, f3, b3, F3, hQ3, hm3⟩
  have dE3 := hQ3.cell
  clear hQ1 hm1 dE f1 b1
  go_wp2_with fail
  refine (qget_b hQ3 f3 b3 (uw_bd _).1 hm3 (.inr hE)).mono ?_
  rintro _ w4 ⟨x4, e4, s4, q4, dx4, dx4', rfl, f4, b4, F4, hQ4, hm4⟩
  have dE4 := hQ4.cell
  clear hQ3 hm3 dE3 f3 b3
  go_wp2_with fail
  refine (qput_b hQ4 f4 b4 hp dx4 dx4' hm4 (.inr hE)).mono ?_
  rintro _ w5 ⟨e5, s5, q5, rfl, f5, b5, F5, hQ5, hm5⟩
  have dE5 := hQ5.cell
  clear hQ4 hm4 dE4 f4 b4
  have q4 : Hid (bget e3 s3 (uAdd nn 1) = (x4, e4, s4)) := q4
  have T : Hid (∀ (e6 : Int) (s6 : St), (if (x4 == 0) = true then bput e5 s5 (uAdd p 1) 0 else (e5, s5)) = (e6, s6) →
    Hid (qTake s a p = match bget e6 s6 (uAdd p 2) with
    | (c, e5, s5) => match bput e5 s5 (uAdd p 2) (IntKind.u64.wrap (c - 1)) with
    | (e6, s6) => match (if (e6 == 0) = true then rGive s6 a nn 2 else (e6, s6)) with
    | (e7, s7) => if (e7 != 0) = true then (0, false, e7, s7) else (x3, true, 0, s7))) := Lib.hid fun e6 s6 q6 => Lib.hid (by
      rw [hq.out, q3.out]; simp only; rw [q4.out]; simp only; rw [q5.out]; simp only; rw [q6])
  clear hq q3 q4 q5
  go_upto_if 51 with (fail)
  go_cut [12] (fun c12 wx => c12 = .int .u64 x4 ∧ ∃ (e6 : Int) (s6 : St) (F6 : Nat → Prop), Hid (qTake s a p = match bget e6 s6 (uAdd p 2) with
    | (c, e5, s5) => match bput e5 s5 (uAdd p 2) (IntKind.u64.wrap (c - 1)) with
    | (e6, s6) => match (if (e6 == 0) = true then rGive s6 a nn 2 else (e6, s6)) with
    | (e7, s7) => if (e7 != 0) = true then (0, false, e7, s7) else (x3, true, 0, s7)) ∧ Fits s6 ∧ Bud s6 (n + 5) ∧ Qb wx t bb F6 s6 e6 ∧ Fr F0 w0 F6 wx)
  case first =>
    have h4 : (x4 == 0) = true ∨ (x4 == 0) = false := by cases (x4 == 0) <;> simp
    rcases h4 with h4 | h4
    · go_wp2_with fail
      refine (qput_b hQ5 f5 b5 (uw_bd _).1 (by omega) (by omega) hm5 (.inr hE)).mono ?_
      rintro _ w6 ⟨e6, s6, q6, rfl, f6, b6, F6, hQ6, hm6⟩
      have hr := T.out e6 s6 (by rw [if_pos h4]; exact q6.out)
      have hQ6' := Lib.hid hQ6
      have hm6' := Lib.hid hm6
      clear hQ5 hm5 hQ6 hm6 q6
      go_wp2
      all_goals go_meet
      all_goals exact ⟨rfl, e6, s6, F6, hr, f6, b6, hQ6'.out, hm6'.out⟩
    · have hr := T.out e5 s5 (by rw [if_neg (by simp [h4])])
      have hQ6' := Lib.hid hQ5
      have hm6' := Lib.hid hm5
      clear hQ5 hm5
      go_wp2
      all_goals go_meet
      all_goals exact ⟨rfl, e5, s5, F5, hr, f5, b5.mono (by omega), hQ6'.out, hm6'.out⟩
  case rest =>
    obtain ⟨rfl, e6, s6, F6, hq, f6, b6, hQ6, hm6⟩ := hcut
    clear T hQ5 hm5 dE5 f5 b5
    go_wp2_with fail
    refine (qget_b hQ6 f6 b6 (uw_bd _).1 hm6 (.inr hE)).mono ?_
    rintro _ w7 ⟨x7, e7, s7, q7, dx7, dx7', rfl, f7, b7, F7, hQ7, hm7⟩
    have q7 : Hid (bget e6 s6 (uAdd p 2) = (x7, e7, s7)) := q7
    clear hQ6 hm6 f6 b6
    go_wp2_with fail
    refine (qput_b hQ7 f7 b7 (uw_bd _).1 (uw_bd _).1 (uw_bd _).2 hm7 (.inr hE)).mono ?_
    rintro _ w8 ⟨e8, s8, q8, rfl, f8, b8, F8, hQ8, hm8⟩
    have q8 : Hid (bput e7 s7 (uAdd p 2) (IntKind.u64.wrap (x7 - 1)) = (e8, s8)) := q8
    have hq : Hid (qTake s a p = match (if (e8 == 0) = true then rGive s8 a nn 2 else (e8, s8)) with
    | (e7, s7) => if (e7 != 0) = true then (0, false, e7, s7) else (x3, true, 0, s7)) := Lib.hid (by rw [hq.out, q7.out]; simp only; rw [q8.out])
    have dE8 := hQ8.cell
    clear hQ7 hm7 f7 b7 q7 q8
    by_cases he : e8 = 0
    · subst he
      go_wp2_with fail
      refine (give_b hQ8.tx f8 b8 ha ux1 ux2 (by omega) (Fr.refl _ _)).mono ?_
      rintro _ w9 ⟨e9, s9, q9, rfl, f9, b9, F9, hw9, hm9⟩
      have hQ9 := hQ8.step hw9 hm9
      have d9 := hQ9.cell
      have z9 := hQ9.blk.frozen 1
      have hQ10 := hQ9.err e9
      have d10 := hQ10.cell
      have hm10 := Lib.hid ((hm8.trans hm9).set (p := ⟨bb, 1, none⟩) (.inr (.inr hE)) (.int .i64 e9))
      have hT := Lib.hid hQ10.tx
      have hq : Hid (qTake s a p = if (e9 != 0) = true then (0, false, e9, s9) else (x3, true, 0, s9)) := Lib.hid (by rw [hq.out, show (if ((0 : Int) == 0) = true then rGive s8 a nn 2 else (0, s8)) = (e9, s9) from (if_pos (by decide)).trans q9.out])
      clear hQ8 hm8 hQ9 hm9 hw9 hQ10 q9 dE8
      by_cases he9 : e9 = 0
      · subst he9
        go_wp2
        go_ret3
        exact ⟨x3, true, 0, s9, hq, dx3, dx3', rfl, f9, b9, F9, hT.out, hm10.out⟩
      · have hz9 : (e9 != 0) = true := by simpa using he9
        have hq : Hid (qTake s a p = (0, false, e9, s9)) := Lib.hid (by rw [hq.out, if_pos hz9])
        clear he9
        go_wp2
        go_quiet (fail)
        go_wp2
        go_ret3
        exact ⟨0, false, e9, s9, hq, by omega, by omega, rfl, f9, b9, F9, hT.out.drewN _, hm10.out.drewN _⟩
    · have hz8 : (e8 != 0) = true := by simpa using he
      have hz8' : (e8 == 0) = false := by simpa using he
      have hq : Hid (qTake s a p = (0, false, e8, s8)) := Lib.hid (by rw [hq.out, show (if (e8 == 0) = true then rGive s8 a nn 2 else (e8, s8)) = (e8, s8) from if_neg (by simp [hz8'])]; simp only; rw [if_pos hz8])
      have hT := Lib.hid hQ8.tx
      have hM := Lib.hid hm8
      clear he hQ8 hm8
      go_wp2
      go_quiet (fail)
      go_wp2
      go_ret3
      exact ⟨0, false, e8, s8, hq, by omega, by omega, rfl, f8, b8.mono (by omega), F8, hT.out.drewN _, hM.out.drewN _⟩
end Go.Proofs.Ytcgdpclhlepofaa
