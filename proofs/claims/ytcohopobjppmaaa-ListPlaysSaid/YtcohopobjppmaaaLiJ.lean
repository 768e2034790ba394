/- A key taken out, by contract. -/
import Derived.Test.YtcohopobjppmaaaLiI
namespace Go.Proofs.Ytcohopobjppmaaa
open Go.RowKit
set_option maxHeartbeats 4000000
set_option linter.unusedVariables false
set_option linter.unusedSimpArgs false

set_option maxRecDepth 100000 in
theorem remove_b {t n N : Nat} {F F0 : Nat → Prop} {s s1 : St} {e1 a l key : Int} {w w0 : World} {p' : Pl} {ks' : List Int}
    (hw : Txw w t F s) (hf : Fits s) (hb : Bud s (n + 7 + 2 * N + 1)) (hN : N ≤ 60000) (ha : 0 ≤ a) (hl : 0 ≤ l) (hl' : l ≤ 18446744073709551615) (hR : hfind (fun x => decide (x < key)) N s 0 l = some (p', ks', e1, s1)) (hm : Fr F0 w0 F w) :
    Calls Try.prog 22 #[.iface 31 (.pointer (some ⟨t, 0, none⟩)), .int .u64 a, .int .u64 l, .int .u64 key] w fun en w' =>
      en = .returned (.tuple #[.bool (lRemR p' e1 s1 a l key).1, .int .i64 (lRemR p' e1 s1 a l key).2.1]) ∧ Lft t n F0 w0 (lRemR p' e1 s1 a l key).2.2 w' := by
  have T1 := hw.alloc (.cells #[.iface 31 (.pointer (some ⟨t, 0, none⟩)), .int .i64 0] 73)
  have H1 : Hnd (w.alloc (.cells #[.iface 31 (.pointer (some ⟨t, 0, none⟩)), .int .i64 0] 73)) w.heap.size t 0 := Blk.new w _ _
  have n1 : ¬ F w.heap.size := fun c => by have := hw.lt _ c; omega
  have hM := Lib.hid (hm.alloc (.cells #[.iface 31 (.pointer (some ⟨t, 0, none⟩)), .int .i64 0] 73))
  have hs := hm.size
  clear hw hm
  go_enter Try.func22, Try.ntmps22
  go_wp2_with fail
  generalize w.alloc (.cells #[.iface 31 (.pointer (some ⟨t, 0, none⟩)), .int .i64 0] 73) = w1 at *
  generalize w.heap.size = h at *
  refine (at_b (n := n + 7) T1 H1 n1 hf hb hN hl hl' hR (Fr.refl _ _)).mono ?_
  rintro _ w6 ⟨rfl, hBd, hL⟩
  have hP := Blk.new w6 81 (plc p')
  obtain ⟨f2, b2, F2, T20, H20, n2, m20⟩ := hL
  have hpn : ¬ (F2 w6.heap.size ∨ w6.heap.size = h) := fun c => c.elim (fun c => by have := T20.lt _ c; omega) fun c => by have := Blk.lt H20; omega
  have T2 := T20.alloc (.cells (plc p') 81)
  have H2 : Hnd (w6.alloc (.cells (plc p') 81)) h t e1 := Blk.alloc H20 _
  have mA := Lib.hid (m20.alloc (.cells (plc p') 81))
  have m2 := Fr.refl (fun k => F2 k ∨ k = h) (w6.alloc (.cells (plc p') 81))
  clear T1 H1 n1 hf hb hR T20 H20 m20
  simp only [plc] at hP T2 H2 m2 mA ⊢
  obtain ⟨-, d1, -⟩ := H2.cells
  have hBd := Lib.hid hBd
  obtain ⟨B1, B2, B3, B4, -⟩ := hBd.out
  have hL1 := Lib.hid (LftH.drop (show LftH t h n _ _ s1 e1 _ from ⟨f2, b2.mono (by omega), F2, T2, H2, n2, mA.out⟩) hM.out hs)
  have hcs : Hid ((e1 != 0) = true ∨ ((e1 != 0) = false ∧ there p' key e1 = false) ∨ ((e1 != 0) = false ∧ there p' key e1 = true)) := Lib.hid (by cases (e1 != 0) <;> cases there p' key e1 <;> simp)
  rcases hcs.out with g1 | ⟨g1, g2⟩ | ⟨g1, g2⟩
  · have hq : Hid (lRemR p' e1 s1 a l key = (false, e1, s1)) := Lib.hid (if_pos (.inl (by simpa using g1)))
    clear hcs T2 H2 m2 mA hM f2 b2 n2
    go_wp2_with fail
    go_quiet (fail)
    go_wp2
    go_ret2
    rw [hq.out]
    exact ⟨rfl, hL1.out.drewN _⟩
  · have hq : Hid (lRemR p' e1 s1 a l key = (false, e1, s1)) := Lib.hid (if_pos (.inr g2))
    clear hcs T2 H2 m2 mA hM f2 b2 n2
    rw [g2]
    go_wp2_with fail
    go_quiet (fail)
    go_wp2
    go_ret2
    rw [hq.out]
    exact ⟨rfl, hL1.out.drewN _⟩
  · have hq : Hid (lRemR p' e1 s1 a l key = lRem p' e1 s1 a l) := Lib.hid (if_neg (by rw [g2]; simpa using g1))
    clear hcs hL1
    rw [g2]
    have p0 := hP.cell 0
    have p1 := hP.cell 1
    simp only [List.getElem?_toArray, List.getElem?_cons_zero, List.getElem?_cons_succ] at p0 p1
    go_wp2_with fail
    generalize w6.alloc (.cells #[.int .u64 p'.from_, .int .u64 p'.next, .int .u64 p'.key, .int .u64 p'.ahead] 81) = w7 at *
    generalize w6.heap.size = pb at *
    refine wp_region_mix (fun W' => W'.cell? ⟨pb, 0, none⟩ = some (.int .u64 p'.from_)) [3, 3, 0, 3, 3, 1, 2, 2] (List.range 8) (by kernel_rfl) (by kernel_rfl) (fun _ _ h => h) p0 ?_
    repeat (first | ((first | refine wpMix_pure rfl rfl (fun K hK => ?_) | refine wpMix_loc rfl rfl (fun K hK => ?_) | refine wpMix_any rfl rfl (fun K hK => ?_)); go_simp; refine hK _ _ ?_; clear hK K) | (refine wpMix_any rfl rfl (fun K hK => ?_); rw [if_pos (by go_simp)]; apply Exists.intro; refine And.intro (fun w2 hS2 => ?_) (hK _ _ ?_); (focus (obtain hs1 := hS2; go_simp; rfl)); clear hK K))
    refine wpMix_loud rfl rfl (fun k1 K hK => ?_)
    go_wp2_with fail
    have T2 := T2.drewN (1 + k1)
    have H2 := Blk.drewN H2 (1 + k1)
    have m2 := m2.drewN (1 + k1)
    have c0 : Hid (∀ (F' : Nat → Prop) (w' : World), Fr (fun k => F2 k ∨ k = h) w7 (fun k => F' k ∨ k = h) w' → w'.cell? ⟨pb, 0, none⟩ = some (.int .u64 p'.from_) ∧ w'.cell? ⟨pb, 1, none⟩ = some (.int .u64 p'.next)) := Lib.hid fun F' w' m => by
      have c0 := (m.blk hP hpn).cell 0
      have c1 := (m.blk hP hpn).cell 1
      simp only [List.getElem?_toArray, List.getElem?_cons_zero, List.getElem?_cons_succ] at c0 c1
      exact ⟨c0, c1⟩
    refine (hget_b (n := n + 6) T2 H2 n2 f2 (b2.mono (by omega)) (by first | assumption | omega | exact (uw_bd _).1) m2).mono ?_; rintro _ w3 ⟨x3, e3, s3, q3, dx3, dy3, rfl, f3, b3, F3, T3, H3, n3, m3⟩; clear T2 H2 n2 f2 b2 m2
    go_wp2_with fail
    refine hK _ _ (fun _ => (c0.out _ _ m3).1) ?_; clear hK K
    repeat (first | ((first | refine wpMix_pure rfl rfl (fun K hK => ?_) | refine wpMix_loc rfl rfl (fun K hK => ?_) | refine wpMix_any rfl rfl (fun K hK => ?_)); go_simp; refine hK _ _ ?_; clear hK K) | (refine wpMix_any rfl rfl (fun K hK => ?_); rw [if_pos (by go_simp)]; apply Exists.intro; refine And.intro (fun w2 hS2 => ?_) (hK _ _ ?_); (focus (obtain hs1 := hS2; go_simp; rfl)); clear hK K))
    refine wpMix_loud rfl rfl (fun k2 K hK => ?_)
    go_wp2_with fail
    have T3 := T3.drewN k2
    have H3 := Blk.drewN H3 k2
    have m3 := m3.drewN k2
    refine (hput_b (n := n + 5) T3 H3 n3 f3 (b3.mono (by omega)) (by first | assumption | omega | exact (uw_bd _).1) (by first | assumption | omega | exact (uw_bd _).1) (by first | assumption | omega | exact (uw_bd _).2) m3).mono ?_; rintro _ w4 ⟨e4, s4, q4, rfl, f4, b4, F4, T4, H4, n4, m4⟩; clear T3 H3 n3 f3 b3 m3
    go_wp2_with fail
    refine hK _ _ (fun _ => (c0.out _ _ m4).1) ?_; clear hK K
    repeat ((first | refine wpMix_pure rfl rfl (fun K hK => ?_) | refine wpMix_loc rfl rfl (fun K hK => ?_) | refine wpMix_any rfl rfl (fun K hK => ?_)); go_simp; refine hK _ _ ?_; clear hK K)
    refine wpMix_nil (fun k3 => ?_)
    have T4 := T4.drewN k3
    have H4 := Blk.drewN H4 k3
    have m4 := m4.drewN k3
    go_wp2_with fail
    refine (hget_b (n := n + 4) T4 H4 n4 f4 (b4.mono (by omega)) (by first | assumption | omega | exact (uw_bd _).1) m4).mono ?_; rintro _ w5 ⟨x5, e5, s5, q5, dx5, dy5, rfl, f5, b5, F5, T5, H5, n5, m5⟩; clear T4 H4 n4 f4 b4 m4
    go_wp2_with fail
    refine (hput_b (n := n + 3) T5 H5 n5 f5 (b5.mono (by omega)) (by first | assumption | omega | exact (uw_bd _).1) (by first | assumption | omega | exact (uw_bd _).1) (by first | assumption | omega | exact (uw_bd _).2) m5).mono ?_; rintro _ w6 ⟨e6, s6, q6, rfl, f6, b6, F6, T6, H6, n6, m6⟩; clear T5 H5 n5 f5 b5 m5
    have c1 := (c0.out _ _ m6).2
    go_wp2_with fail
    refine (hgive_b (n := n) T6 H6 n6 f6 (b6.mono (by omega)) (by first | assumption | omega | exact (uw_bd _).1) (by first | assumption | omega | exact (uw_bd _).1) (by first | assumption | omega | exact (uw_bd _).2) (by omega) m6).mono ?_; rintro _ w8 ⟨e8, s8, q8, rfl, f8, b8, F8, T8, H8, n8, m8⟩; clear T6 H6 n6 f6 b6 m6
    obtain ⟨-, d8, -⟩ := H8.cells
    have hL := Lib.hid (LftH.drop (show LftH t h n _ _ s8 e8 w8 from ⟨f8, b8, F8, T8, H8, n8, mA.out.trans m8⟩) hM.out hs)
    have hq := Lib.hid (hq.out.trans (show lRem p' e1 s1 a l = (e8 == 0, e8, s8) by
      unfold lRem
      rw [q3.out]; simp only
      rw [q4.out]; simp only
      rw [q5.out]; simp only
      rw [q6.out]; simp only
      rw [q8.out]))
    clear T8 H8 m8 mA hM f8 b8 n8 q3 q4 q5 q6 q8 c0 c1 hP
    go_wp2_with fail
    go_quiet (fail)
    go_wp2
    go_ret2
    rw [hq.out]
    exact ⟨rfl, hL.out.drewN _⟩
end Go.Proofs.Ytcohopobjppmaaa
