/- A list laid; a key put in, by contract. -/
import Derived.Test.YtcohopobjppmaaaLiH
namespace Go.Proofs.Ytcohopobjppmaaa
open Go.RowKit
set_option maxHeartbeats 4000000
set_option linter.unusedVariables false
set_option linter.unusedSimpArgs false

set_option maxRecDepth 100000 in
theorem new_b {t n : Nat} {F F0 : Nat → Prop} {s : St} {a : Int} {w w0 : World}
    (hw : Txw w t F s) (hf : Fits s) (hb : Bud s (n + 6)) (ha : 0 ≤ a) (hm : Fr F0 w0 F w) :
    Calls Try.prog 12 #[.iface 31 (.pointer (some ⟨t, 0, none⟩)), .int .u64 a] w fun en w' =>
      ∃ x e' s', Hid (lNew s a = (x, e', s')) ∧ 0 ≤ x ∧ x ≤ 18446744073709551615 ∧ en = .returned (.tuple #[.int .u64 x, .int .i64 e']) ∧ Lft t n F0 w0 s' w' := by
  have T1 := hw.alloc (.cells #[.iface 31 (.pointer (some ⟨t, 0, none⟩)), .int .i64 0] 73)
  have H1 : Hnd (w.alloc (.cells #[.iface 31 (.pointer (some ⟨t, 0, none⟩)), .int .i64 0] 73)) w.heap.size t 0 := Blk.new w _ _
  have n1 : ¬ F w.heap.size := fun c => by have := hw.lt _ c; omega
  have hM := Lib.hid (hm.alloc (.cells #[.iface 31 (.pointer (some ⟨t, 0, none⟩)), .int .i64 0] 73))
  have hs := hm.size
  have f1 := hf
  have b1 := hb
  have m1 := Fr.refl (fun k => F k ∨ k = w.heap.size) (w.alloc (.cells #[.iface 31 (.pointer (some ⟨t, 0, none⟩)), .int .i64 0] 73))
  clear hw hm hf hb
  go_enter Try.func12, Try.ntmps12
  go_wp2_with fail
  generalize w.alloc (.cells #[.iface 31 (.pointer (some ⟨t, 0, none⟩)), .int .i64 0] 73) = w1 at *
  generalize w.heap.size = h at *
  refine (htake_b (n := n + 2) T1 H1 n1 f1 (b1.mono (by omega)) (by first | assumption | omega | exact (uw_bd _).1) (by omega) m1).mono ?_; rintro _ w2 ⟨x2, e2, s2, q2, dx2, dy2, rfl, f2, b2, F2, T2, H2, n2, m2⟩; clear T1 H1 n1 f1 b1 m1
  go_wp2_with fail
  refine (hput_b (n := n + 1) T2 H2 n2 f2 (b2.mono (by omega)) (by first | assumption | omega | exact (uw_bd _).1) (by first | assumption | omega | exact (uw_bd _).1) (by first | assumption | omega | exact (uw_bd _).2) m2).mono ?_; rintro _ w3 ⟨e3, s3, q3, rfl, f3, b3, F3, T3, H3, n3, m3⟩; clear T2 H2 n2 f2 b2 m2
  go_wp2_with fail
  refine (hput_b (n := n) T3 H3 n3 f3 (b3.mono (by omega)) (by first | assumption | omega | exact (uw_bd _).1) (by first | assumption | omega | exact (uw_bd _).1) (by first | assumption | omega | exact (uw_bd _).2) m3).mono ?_; rintro _ w4 ⟨e4, s4, q4, rfl, f4, b4, F4, T4, H4, n4, m4⟩; clear T3 H3 n3 f3 b3 m3
  obtain ⟨-, d1, -⟩ := H4.cells
  have hL := Lib.hid (LftH.drop (show LftH t h n _ _ s4 e4 w4 from ⟨f4, b4, F4, T4, H4, n4, m4⟩) hM.out hs)
  have hq : Hid (lNew s a = if e4 ≠ 0 then (0, e4, s4) else (x2, 0, s4)) := Lib.hid (by unfold lNew; rw [q2.out]; simp only; rw [q3.out]; simp only; rw [show uAdd x2 1 = IntKind.u64.wrap (x2 + 1) from rfl, q4.out])
  clear T4 H4 n4 m4 f4 b4 q2 q3 q4 hM
  by_cases he : e4 = 0
  · subst he
    have hq : Hid (lNew s a = (x2, 0, s4)) := Lib.hid (by rw [hq.out]; simp)
    go_wp2_with fail
    go_ret2
    exact ⟨x2, 0, s4, hq, dx2, dy2, rfl, hL.out⟩
  · have z : (e4 != 0) = true := by simpa using he
    have hq : Hid (lNew s a = (0, e4, s4)) := Lib.hid (by rw [hq.out, if_pos he])
    clear he
    go_wp2_with fail
    go_quiet (fail)
    go_wp2
    go_ret2
    exact ⟨0, e4, s4, hq, by omega, by omega, rfl, hL.out.drewN _⟩

set_option maxRecDepth 100000 in
theorem insert_b {t n N : Nat} {F F0 : Nat → Prop} {s s1 : St} {e1 a l key : Int} {w w0 : World} {p' : Pl} {ks' : List Int}
    (hw : Txw w t F s) (hf : Fits s) (hb : Bud s (n + 9 + 2 * N + 1)) (hN : N ≤ 60000) (ha : 0 ≤ a) (hl : 0 ≤ l) (hl' : l ≤ 18446744073709551615) (hk : 0 ≤ key) (hk' : key ≤ 18446744073709551615) (hR : hfind (fun x => decide (x < key)) N s 0 l = some (p', ks', e1, s1)) (hm : Fr F0 w0 F w) :
    Calls Try.prog 21 #[.iface 31 (.pointer (some ⟨t, 0, none⟩)), .int .u64 a, .int .u64 l, .int .u64 key] w fun en w' =>
      en = .returned (.tuple #[.bool (lInsR p' e1 s1 a l key).1, .int .i64 (lInsR p' e1 s1 a l key).2.1]) ∧ Lft t n F0 w0 (lInsR p' e1 s1 a l key).2.2 w' := by
  have T1 := hw.alloc (.cells #[.iface 31 (.pointer (some ⟨t, 0, none⟩)), .int .i64 0] 73)
  have H1 : Hnd (w.alloc (.cells #[.iface 31 (.pointer (some ⟨t, 0, none⟩)), .int .i64 0] 73)) w.heap.size t 0 := Blk.new w _ _
  have n1 : ¬ F w.heap.size := fun c => by have := hw.lt _ c; omega
  have hM := Lib.hid (hm.alloc (.cells #[.iface 31 (.pointer (some ⟨t, 0, none⟩)), .int .i64 0] 73))
  have hs := hm.size
  clear hw hm
  go_enter Try.func21, Try.ntmps21
  go_wp2_with fail
  generalize w.alloc (.cells #[.iface 31 (.pointer (some ⟨t, 0, none⟩)), .int .i64 0] 73) = w1 at *
  generalize w.heap.size = h at *
  refine (at_b (n := n + 9) T1 H1 n1 hf hb hN hl hl' hR (Fr.refl _ _)).mono ?_
  rintro _ w6 ⟨rfl, hBd, hL⟩
  have hP := Blk.new w6 81 (plc p')
  obtain ⟨f2, b2, F2, T20, H20, n2, m20⟩ := hL
  have hpn : ¬ (F2 w6.heap.size ∨ w6.heap.size = h) := fun c => c.elim (fun c => by have := T20.lt _ c; omega) fun c => by have := Blk.lt H20; omega
  have T2 := T20.alloc (.cells (plc p') 81)
  have H2 : Hnd (w6.alloc (.cells (plc p') 81)) h t e1 := Blk.alloc H20 _
  have mA := Lib.hid (m20.alloc (.cells (plc p') 81))
  have m2 := Fr.refl (fun k => F2 k ∨ k = h) (w6.alloc (.cells (plc p') 81))
  clear T1 H1 n1 hf hb hR T20 H20 m20
  simp only [plc] at hP T2 H2 m2 mA ⊢
  obtain ⟨-, d1, -⟩ := H2.cells
  have hBd := Lib.hid hBd
  obtain ⟨B1, B2, B3, B4, -⟩ := hBd.out
  have hL1 := Lib.hid (LftH.drop (show LftH t h n _ _ s1 e1 _ from ⟨f2, b2.mono (by omega), F2, T2, H2, n2, mA.out⟩) hM.out hs)
  have hcs : Hid ((e1 != 0) = true ∨ ((e1 != 0) = false ∧ there p' key e1 = true) ∨ ((e1 != 0) = false ∧ there p' key e1 = false)) := Lib.hid (by cases (e1 != 0) <;> cases there p' key e1 <;> simp)
  rcases hcs.out with g1 | ⟨g1, g2⟩ | ⟨g1, g2⟩
  · have hq : Hid (lInsR p' e1 s1 a l key = (false, e1, s1)) := Lib.hid (if_pos (.inl (by simpa using g1)))
    clear hcs T2 H2 m2 mA hM f2 b2 n2
    go_wp2_with fail
    go_quiet (fail)
    go_wp2
    go_ret2
    rw [hq.out]
    exact ⟨rfl, hL1.out.drewN _⟩
  · have hq : Hid (lInsR p' e1 s1 a l key = (false, e1, s1)) := Lib.hid (if_pos (.inr g2))
    clear hcs T2 H2 m2 mA hM f2 b2 n2
    rw [g2]
    go_wp2_with fail
    go_quiet (fail)
    go_wp2
    go_ret2
    rw [hq.out]
    exact ⟨rfl, hL1.out.drewN _⟩
  · have hq : Hid (lInsR p' e1 s1 a l key = lIns p' e1 s1 a l key) := Lib.hid (if_neg (by rw [g2]; simpa using g1))
    clear hcs hL1
    have f2 := f2
    go_wp2_with fail
    generalize w6.alloc (.cells #[.int .u64 p'.from_, .int .u64 p'.next, .int .u64 p'.key, .int .u64 p'.ahead] 81) = w7 at *
    generalize w6.heap.size = pb at *
    refine (htake_b (n := n + 5) T2 H2 n2 f2 (b2.mono (by omega)) (by first | assumption | omega | exact (uw_bd _).1) (by omega) m2).mono ?_; rintro _ w3 ⟨x3, e3, s3, q3, dx3, dy3, rfl, f3, b3, F3, T3, H3, n3, m3⟩; clear T2 H2 n2 f2 b2 m2
    go_wp2_with fail
    refine (hget_b (n := n + 4) T3 H3 n3 f3 (b3.mono (by omega)) (by first | assumption | omega | exact (uw_bd _).1) m3).mono ?_; rintro _ w4 ⟨x4, e4, s4, q4, dx4, dy4, rfl, f4, b4, F4, T4, H4, n4, m4⟩; clear T3 H3 n3 f3 b3 m3
    go_wp2_with fail
    refine (hput_b (n := n + 3) T4 H4 n4 f4 (b4.mono (by omega)) (by first | assumption | omega | exact (uw_bd _).1) (by first | assumption | omega | exact (uw_bd _).1) (by first | assumption | omega | exact (uw_bd _).2) m4).mono ?_; rintro _ w5 ⟨e5, s5, q5, rfl, f5, b5, F5, T5, H5, n5, m5⟩; clear T4 H4 n4 f4 b4 m4
    have P5 := (m5.blk hP hpn).cell 1
    simp only [List.getElem?_toArray, List.getElem?_cons_zero, List.getElem?_cons_succ] at P5
    go_wp2_with fail
    refine (hput_b (n := n + 2) T5 H5 n5 f5 (b5.mono (by omega)) (by first | assumption | omega | exact (uw_bd _).1) (by first | assumption | omega | exact (uw_bd _).1) (by first | assumption | omega | exact (uw_bd _).2) m5).mono ?_; rintro _ w6 ⟨e6, s6, q6, rfl, f6, b6, F6, T6, H6, n6, m6⟩; clear T5 H5 n5 f5 b5 m5
    have P6 := (m6.blk hP hpn).cell 0
    simp only [List.getElem?_toArray, List.getElem?_cons_zero, List.getElem?_cons_succ] at P6
    go_wp2_with fail
    refine (hput_b (n := n + 1) T6 H6 n6 f6 (b6.mono (by omega)) (by first | assumption | omega | exact (uw_bd _).1) (by first | assumption | omega | exact (uw_bd _).1) (by first | assumption | omega | exact (uw_bd _).2) m6).mono ?_; rintro _ w7 ⟨e7, s7, q7, rfl, f7, b7, F7, T7, H7, n7, m7⟩; clear T6 H6 n6 f6 b6 m6
    go_wp2_with fail
    refine (hput_b (n := n) T7 H7 n7 f7 (b7.mono (by omega)) (by first | assumption | omega | exact (uw_bd _).1) (by first | assumption | omega | exact (uw_bd _).1) (by first | assumption | omega | exact (uw_bd _).2) m7).mono ?_; rintro _ w8 ⟨e8, s8, q8, rfl, f8, b8, F8, T8, H8, n8, m8⟩; clear T7 H7 n7 f7 b7 m7
    obtain ⟨-, d8, -⟩ := H8.cells
    have hL := Lib.hid (LftH.drop (show LftH t h n _ _ s8 e8 w8 from ⟨f8, b8, F8, T8, H8, n8, mA.out.trans m8⟩) hM.out hs)
    have hq := Lib.hid (hq.out.trans (show lIns p' e1 s1 a l key = (e8 == 0, e8, s8) by
      unfold lIns
      rw [q3.out]; simp only
      rw [q4.out]; simp only
      rw [q5.out]; simp only
      rw [show uAdd x3 1 = IntKind.u64.wrap (x3 + 1) from rfl, q6.out]; simp only
      rw [q7.out]; simp only
      rw [show uAdd x4 1 = IntKind.u64.wrap (x4 + 1) from rfl, q8.out]))
    clear T8 H8 m8 mA hM f8 b8 n8 q3 q4 q5 q6 q7 q8 P5 P6 hP
    go_wp2_with fail
    go_quiet (fail)
    go_wp2
    go_ret2
    rw [hq.out]
    exact ⟨rfl, hL.out.drewN _⟩
end Go.Proofs.Ytcohopobjppmaaa
