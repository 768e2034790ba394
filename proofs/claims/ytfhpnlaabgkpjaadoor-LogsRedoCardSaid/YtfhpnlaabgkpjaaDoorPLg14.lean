/- reads, by contract: At of what is not there. -/
import Derived.Deep.DeepCutAuto
import Derived.Test.YtfhpnlaabgkpjaaDoorPLg6
import Derived.Test.YtfhpnlaabgkpjaaDoorPLg7
import Derived.Test.YtfhpnlaabgkpjaaDoorPLg12
import Derived.Test.YtfhpnlaabgkpjaaDoorPLg13
namespace Go.Proofs.YtfhpnlaabgkpjaaDoor
open Go.RowKit Go.Shelf
set_option maxHeartbeats 8000000
set_option linter.unusedVariables false
set_option linter.unusedSimpArgs false

set_option maxRecDepth 100000 in
theorem reads_4n {w : World} {X : Nat → Prop} {r q most : Nat} {l : List (Int × Int)} {on a x n : Int} {vc : Value} (hn : n < 0 ∨ (l.length : Int) ≤ n) (hi1 : -9223372036854775808 ≤ n) (hi2 : n ≤ 9223372036854775807) (h : PD w X r q most l) :
    Calls Tryd.prog 12 #[.pointer (some ⟨r, 0, none⟩), .pointer (some ⟨q, 0, none⟩), .agg #[.int .i64 4, .int .i64 on, .int .u64 a, .int .u64 x, .int .i64 n, vc]] w fun e w' => e = .returned (.bool true) ∧ ∃ X' l', PD w' X' r q most l' ∧ Fr X w X' w' := by
  have hn9 := Lib.hid (show (n < 0 ∨ (l.length : Int) ≤ n) ∧ -9223372036854775808 ≤ n ∧ n ≤ 9223372036854775807 from ⟨hn, hi1, hi2⟩)
  clear hn hi1 hi2
  obtain ⟨Aq, cq, hLq, c1, _⟩ := h.slice
  have hmx : Tryd.prog.follows .mixedOrders = true := by kernel_rfl
  have hXl := Lib.hid h.lt
  have hlm := h.hm
  have hll := h.hl
  have hz1 := Lib.hid (show 0 + l.length ≤ 9223372036854775807 by omega)
  have hz2 := Lib.hid (show (0 + l.length) * 16 ≤ 140737488355328 by omega)
  obtain ⟨W0, hW0⟩ : ∃ u, Hid (u = w.alloc (.cells #[.int .i64 4, .int .i64 on, .int .u64 a, .int .u64 x, .int .i64 n, vc] 41)) := ⟨_, Lib.hid rfl⟩
  have b0 : Hid (Blk W0 w.heap.size 41 #[.int .i64 4, .int .i64 on, .int .u64 a, .int .u64 x, .int .i64 n, vc]) := Lib.hid (by rw [hW0.out]; exact Blk.new _ _ _)
  have f0 : Hid (Fr (fun _ => False) w (fun _ => False) W0) := Lib.hid (by rw [hW0.out]; exact (Fr.refl _ w).alloc _)
  have p0 := Lib.hid (h.new_ f0.out)
  have c1 := f0.out.keep_cell c1
  have L0 := Lib.hid (Sl.fr hLq f0.out fun _ _ h => h)
  have L1 : Hid (Cl (W0.alloc (.cells #[] 55)) (.slice Aq l.length cq) l) := Lib.hid (Sl.alloc L0.out _)
  have N1 : Hid (Cl (W0.alloc (.cells #[] 55)) (.slice (some ⟨W0.heap.size, 0, none⟩) 0 0) []) := Lib.hid (Sl.new encC_len W0 [] (by simp))
  have c1 := cell_alloc_ (o := .cells #[] 55) c1
  clear hLq h hlm hll L0
  go_enter Tryd.func12, Tryd.ntmps12
  go_upto_region 1 with (fail)
  rw [← hW0.out]
  go_wp2_with (at_builtin; refine wpList_cells (W0.alloc (.cells #[] 55)) rfl (.tmp 18) (.tmp 22) rfl (.slice (some ⟨W0.heap.size, 0, none⟩) 0 0) (.slice Aq l.length cq) [] l rfl N1.out rfl L1.out hz1.out hz2.out ?_; intro A3 cp3 w3 hc3 hv3 hm3; have V3 := Lib.hid hv3; have M3 := Lib.hid hm3; clear hv3 hm3)
  have f3 : Hid (Fr (fun _ => False) W0 (fun _ => False) w3) := Lib.hid (((((Fr.refl (fun _ => False) W0).alloc (.cells #[] 55)).into (G := own (.slice (some ⟨W0.heap.size, 0, none⟩) 0 0)) (fun k hk => .inr (.inr (Nat.le_of_eq (by simpa [own, Value.ownBlock] using hk))))).trans M3.out).into fun _ h => h.elim)
  have p3 := Lib.hid (p0.out.new_ f3.out)
  have b3 := Lib.hid (f3.out.blk b0.out fun h => h)
  have f3w := Lib.hid (f0.out.trans f3.out)
  clear M3 N1 L1 c1 hW0 f0 f3 b0 p0
  refine p3.out.all_b.mono ?_
  rintro _ w4 ⟨b, rfl, S4, p4, m4⟩
  have V4 : Hid (Cl w4 (.slice A3 (([] : List (Int × Int)).length + l.length) cp3) ([] ++ l)) := Lib.hid (Sl.fr V3.out m4 fun _ _ h => h)
  replace S4 := Lib.hid S4
  replace p4 := Lib.hid p4
  have b4 := Lib.hid (m4.blk b3.out fun h => h)
  have f4 := Lib.hid (f3w.out.trans m4)
  clear V3 p3 b3 f3w m4
  have o0 : w4.cell? ⟨w.heap.size, 0, none⟩ = some (.int .i64 4) := b4.out.cell 0
  have o2 : w4.cell? ⟨w.heap.size, 2, none⟩ = some (.int .u64 a) := b4.out.cell 2
  have o3 : w4.cell? ⟨w.heap.size, 3, none⟩ = some (.int .u64 x) := b4.out.cell 3
  have o4 : w4.cell? ⟨w.heap.size, 4, none⟩ = some (.int .i64 n) := b4.out.cell 4
  have o5 : w4.cell? ⟨w.heap.size, 5, none⟩ = some vc := b4.out.cell 5
  have hob : Hid (¬ X w.heap.size) := Lib.hid fun hx => Nat.lt_irrefl _ (hXl.out _ hx)
  generalize w.heap.size = ob at *
  clear hXl
  clear V4 S4 b4
  have C1 := Lib.hid (p4.out.atNo_b hn9.out.1 hn9.out.2.1 hn9.out.2.2)
  go_wp2_with fail
  refine C1.out.mono ?_
  rintro _ w5 ⟨rfl, f5⟩
  clear C1
  obtain ⟨w6, hw6⟩ : ∃ u, Hid (u = w5.alloc (.cells #[.int .u64 0, .int .u64 0] 55)) := ⟨_, Lib.hid rfl⟩
  have f6 : Hid (Fr (fun _ => False) w4 (fun _ => False) w6) := Lib.hid (by rw [hw6.out]; exact f5.alloc _)
  have p6 := Lib.hid (p4.out.new_ f6.out)
  have o46 := f6.out.keep_cell o4
  have b6 : Hid (Blk w6 w5.heap.size 55 #[.int .u64 0, .int .u64 0]) := Lib.hid (by rw [hw6.out]; exact Blk.new _ _ _)
  have v0 : w6.cell? ⟨w5.heap.size, 0, none⟩ = some (.int .u64 0) := b6.out.cell 0
  have v1 : w6.cell? ⟨w5.heap.size, 1, none⟩ = some (.int .u64 0) := b6.out.cell 1
  obtain ⟨Ax, cx, hLx, cx1, _, _, _, cxm⟩ := p6.out.slice
  have cne := fun w => cell_neq 0 0 0 0 w
  simp only [decide_true, Bool.and_self, Bool.not_true] at cne
  have hml := p6.out.hm
  have hll := p6.out.hl
  have hlli : (l.length : Int) ≤ 1048576 := by omega
  clear f5 p4 o0 o2 o3 o4 o5 b6 hml hll
  have hd := hn9.out
  have hcase : decide (n ≥ 0) = false ∨ (decide (n ≥ 0) = true ∧ decide (n < (l.length : Int)) = false) := by
    by_cases h0 : n < 0
    · exact .inl (decide_eq_false (by omega))
    · exact .inr ⟨decide_eq_true (by omega), decide_eq_false (by omega)⟩
  clear hd hn9 hLx
  go_upto_region 23 with (fail)
  rw [← hw6.out]
  rcases hcase with hd0 | ⟨hd0, hd1⟩
  · refine wp_region_mixH (fun _ => True) [3, 1, 3, 3, 3, 1, 3, 3, 3, 1, 3, 3, 3, 3] (List.range 14) (by kernel_rfl) (by kernel_rfl) (fun _ _ h => h) trivial ?_
    repeat ((first | refine wpMixH_pure rfl rfl (fun K hK => ?_) | refine wpMixH_loc rfl rfl (fun K hK => ?_) | refine wpMixH_any rfl rfl (fun K hK => ?_)); go_simp; refine hK _ _ ?_; clear hK K)
    refine wpMixH_nil (fun m1 => ?_)
    go_wp2_with fail
    refine wp_region_mixH (fun W => W.cell? ⟨w5.heap.size, 0, none⟩ = some (.int .u64 0) ∧ W.cell? ⟨w5.heap.size, 1, none⟩ = some (.int .u64 0)) [3, 3, 3, 3, 3, 3, 1, 3, 3, 3, 1, 3, 1, 3, 1, 3, 3, 3, 3, 3, 3, 3, 0, 2, 3, 3, 3] (List.range 27) (by kernel_rfl) (by kernel_rfl) (fun _ _ h => h) ⟨v0, v1⟩ ?_
    repeat (first | ((first | refine wpMixH_pure rfl rfl (fun K hK => ?_) | refine wpMixH_loc rfl rfl (fun K hK => ?_) | refine wpMixH_any rfl rfl (fun K hK => ?_)); go_simp; refine hK _ _ ?_; clear hK K) | (refine wpMixH_any rfl rfl (fun K hK => ?_); rw [if_pos (by go_simp)]; apply Exists.intro; refine And.intro (fun w2 hS2 => ?_) (hK _ _ ?_); (focus (obtain ⟨hs1, hs2⟩ := hS2; go_simp; rfl)); clear hK K))
    refine wpMixH_loud rfl rfl (fun m2 K hK => ?_)
    go_wp2_with fail
    refine hK _ _ (fun _ => ⟨v0, v1⟩) ?_; clear hK K
    repeat (first | ((first | refine wpMixH_pure rfl rfl (fun K hK => ?_) | refine wpMixH_loc rfl rfl (fun K hK => ?_) | refine wpMixH_any rfl rfl (fun K hK => ?_)); go_simp; refine hK _ _ ?_; clear hK K) | (refine wpMixH_any rfl rfl (fun K hK => ?_); rw [if_pos (by go_simp)]; apply Exists.intro; refine And.intro (fun w2 hS2 => ?_) (hK _ _ ?_); (focus (obtain ⟨hs1, hs2⟩ := hS2; go_simp; rfl)); clear hK K))
    refine wpMixH_nil (fun m3 => ?_)
    go_upto_region 29 with (fail)
    rw [drewN_drewN]
    have PP := Lib.hid (p6.out.drewN (1 + m1 + 1 + m2 + m3))
    have FF : Hid (Fr X w X (w6.drewN (1 + m1 + 1 + m2 + m3))) := Lib.hid (((Fr.refl X w).beside (f4.out.trans f6.out) fun _ h => h.elim).drewN (1 + m1 + 1 + m2 + m3))
    clear p6 f6 f4 v0 v1 cx1 o46
    generalize w6.drewN (1 + m1 + 1 + m2 + m3) = W9 at *
    obtain ⟨At, ct, _, ct1, _, _, _, ctm⟩ := PP.out.slice
    have hlm := PP.out.hm
    have hll := PP.out.hl
    have hlli : (l.length : Int) ≤ 1048576 := by omega
    have T1 := Lib.hid (fun m => (PP.out.drewN m).len_b)
    have T2 := Lib.hid (fun m => (PP.out.drewN m).all_b)
    have hz9 := Lib.hid (show l.length ≤ 4611686018427387904 by omega)
    clear hlm hll
    refine wp_region_mixH (fun W => W.cell? ⟨q, 1, none⟩ = some (.slice At l.length ct)) [3, 2, 3, 3, 3, 0, 3, 3, 3, 3, 2, 3, 3, 3, 0, 2, 3, 3] [0, 2, 3, 4, 5, 6, 1, 7, 8, 9, 11, 12, 13, 14, 10, 15, 16, 17] (by kernel_rfl) (by kernel_rfl) (fun _ _ h => h) ct1 ?_
    repeat (first | ((first | refine wpMixH_pure rfl rfl (fun K hK => ?_) | refine wpMixH_loc rfl rfl (fun K hK => ?_) | refine wpMixH_any rfl rfl (fun K hK => ?_)); go_simp; refine hK _ _ ?_; clear hK K) | (refine wpMixH_any rfl rfl (fun K hK => ?_); rw [if_pos (by go_simp)]; apply Exists.intro; refine And.intro (fun w2 hS2 => ?_) (hK _ _ ?_); (focus (obtain hs1 := hS2; go_simp; rfl)); clear hK K))
    refine wpMixH_loud rfl rfl (fun m1 K hK => ?_)
    go_wp2_with fail
    refine (T1.out _).mono ?_
    rintro _ w7 ⟨rfl, rfl⟩
    go_wp2_with fail
    refine hK _ _ (fun _ => ct1) ?_; clear hK K
    repeat (first | ((first | refine wpMixH_pure rfl rfl (fun K hK => ?_) | refine wpMixH_loc rfl rfl (fun K hK => ?_) | refine wpMixH_any rfl rfl (fun K hK => ?_)); go_simp; refine hK _ _ ?_; clear hK K) | (refine wpMixH_any rfl rfl (fun K hK => ?_); rw [if_pos (by go_simp)]; apply Exists.intro; refine And.intro (fun w2 hS2 => ?_) (hK _ _ ?_); (focus (obtain hs1 := hS2; go_simp; rfl)); clear hK K))
    refine wpMixH_loud rfl rfl (fun m2 K hK => ?_)
    go_wp2_with fail
    refine (T2.out _).mono ?_
    rintro _ w8 ⟨b8, rfl, S8, p8, m8⟩
    obtain ⟨Au, cu, hLu, cu1, _⟩ := p8.slice
    have T3 := Lib.hid (fun m => walk_b (n := 0) S8 (below_drewNs (Below.refl _ w8) m) (Sl.drewN hLu m |> Cl.lies) hz9.out)
    have ct8 := m8.keep_cell (p := ⟨q, 1, none⟩) ct1
    obtain ⟨rfl, rfl⟩ : At = Au ∧ ct = cu := by
      rw [cu1] at ct8
      simp only [Option.some.injEq, Value.slice.injEq] at ct8
      exact ⟨ct8.1.symm, ct8.2.2.symm⟩
    replace p8 := Lib.hid p8
    replace m8 := Lib.hid m8
    clear T1 T2 S8 hLu ct8 ct1
    go_wp2_with fail
    refine hK _ _ (fun _ => cu1) ?_; clear hK K
    repeat (first | ((first | refine wpMixH_pure rfl rfl (fun K hK => ?_) | refine wpMixH_loc rfl rfl (fun K hK => ?_) | refine wpMixH_any rfl rfl (fun K hK => ?_)); go_simp; refine hK _ _ ?_; clear hK K) | (refine wpMixH_any rfl rfl (fun K hK => ?_); rw [if_pos (by go_simp)]; apply Exists.intro; refine And.intro (fun w2 hS2 => ?_) (hK _ _ ?_); (focus (obtain hs1 := hS2; go_simp; rfl)); clear hK K))
    refine wpMixH_loud rfl rfl (fun m3 K hK => ?_)
    go_wp2_with fail
    refine (T3.out _).mono ?_
    rintro _ w9 ⟨rfl, m9⟩
    replace m9 := Lib.hid m9
    clear T3 cu1
    go_wp2_with fail
    refine hK _ _ (fun h => (Bool.false_ne_true ((Eq.symm (by kernel_rfl)).trans h)).elim) ?_; clear hK K
    repeat ((first | refine wpMixH_pure rfl rfl (fun K hK => ?_) | refine wpMixH_loc rfl rfl (fun K hK => ?_) | refine wpMixH_any rfl rfl (fun K hK => ?_)); go_simp; refine hK _ _ ?_; clear hK K)
    refine wpMixH_nil (fun m4 => ?_)
    go_wp2
    go_ret
    have q9 : PD (w9.drewN m4) X r q most l := ((p8.out.drewN m3).new_ m9.out).drewN m4
    have g8 : Fr (fun _ => False) W9 (fun _ => False) w8 := ⟨m8.out.os, m8.out.tape, m8.out.output, m8.out.size, m8.out.block, m8.out.new⟩
    have g9 : Fr (fun _ => False) w8 (fun _ => False) w9 := ⟨m9.out.os, m9.out.tape, m9.out.output, m9.out.size, m9.out.block, m9.out.new⟩
    exact ⟨rfl, _, _, q9, ((FF.out.beside g8 fun _ h => h.elim).beside g9 fun _ h => h.elim).drewN m4⟩
  · refine wp_region_mixH (fun _ => True) [3, 1, 3, 3, 3, 1, 3, 3, 3, 1, 3, 3, 3, 3] (List.range 14) (by kernel_rfl) (by kernel_rfl) (fun _ _ h => h) trivial ?_
    repeat ((first | refine wpMixH_pure rfl rfl (fun K hK => ?_) | refine wpMixH_loc rfl rfl (fun K hK => ?_) | refine wpMixH_any rfl rfl (fun K hK => ?_)); go_simp; refine hK _ _ ?_; clear hK K)
    refine wpMixH_nil (fun m1 => ?_)
    go_wp2_with fail
    refine wp_region_mixH (fun W => W.cell? ⟨w5.heap.size, 0, none⟩ = some (.int .u64 0) ∧ W.cell? ⟨w5.heap.size, 1, none⟩ = some (.int .u64 0)) [3, 3, 3, 3, 3, 3, 1, 3, 3, 3, 1, 3, 1, 3, 1, 3, 3, 3, 3, 3, 3, 3, 0, 2, 3, 3, 3] (List.range 27) (by kernel_rfl) (by kernel_rfl) (fun _ _ h => h) ⟨v0, v1⟩ ?_
    repeat (first | ((first | refine wpMixH_pure rfl rfl (fun K hK => ?_) | refine wpMixH_loc rfl rfl (fun K hK => ?_) | refine wpMixH_any rfl rfl (fun K hK => ?_)); go_simp; refine hK _ _ ?_; clear hK K) | (refine wpMixH_any rfl rfl (fun K hK => ?_); rw [if_pos (by go_simp)]; apply Exists.intro; refine And.intro (fun w2 hS2 => ?_) (hK _ _ ?_); (focus (obtain ⟨hs1, hs2⟩ := hS2; go_simp; rfl)); clear hK K))
    refine wpMixH_loud rfl rfl (fun m2 K hK => ?_)
    go_wp2_with fail
    refine hK _ _ (fun _ => ⟨v0, v1⟩) ?_; clear hK K
    repeat (first | ((first | refine wpMixH_pure rfl rfl (fun K hK => ?_) | refine wpMixH_loc rfl rfl (fun K hK => ?_) | refine wpMixH_any rfl rfl (fun K hK => ?_)); go_simp; refine hK _ _ ?_; clear hK K) | (refine wpMixH_any rfl rfl (fun K hK => ?_); rw [if_pos (by go_simp)]; apply Exists.intro; refine And.intro (fun w2 hS2 => ?_) (hK _ _ ?_); (focus (obtain ⟨hs1, hs2⟩ := hS2; go_simp; rfl)); clear hK K))
    refine wpMixH_nil (fun m3 => ?_)
    go_upto_region 29 with (fail)
    rw [drewN_drewN]
    have PP := Lib.hid (p6.out.drewN (1 + m1 + 1 + m2 + m3))
    have FF : Hid (Fr X w X (w6.drewN (1 + m1 + 1 + m2 + m3))) := Lib.hid (((Fr.refl X w).beside (f4.out.trans f6.out) fun _ h => h.elim).drewN (1 + m1 + 1 + m2 + m3))
    clear p6 f6 f4 v0 v1 cx1 o46
    generalize w6.drewN (1 + m1 + 1 + m2 + m3) = W9 at *
    obtain ⟨At, ct, _, ct1, _, _, _, ctm⟩ := PP.out.slice
    have hlm := PP.out.hm
    have hll := PP.out.hl
    have hlli : (l.length : Int) ≤ 1048576 := by omega
    have T1 := Lib.hid (fun m => (PP.out.drewN m).len_b)
    have T2 := Lib.hid (fun m => (PP.out.drewN m).all_b)
    have hz9 := Lib.hid (show l.length ≤ 4611686018427387904 by omega)
    clear hlm hll
    refine wp_region_mixH (fun W => W.cell? ⟨q, 1, none⟩ = some (.slice At l.length ct)) [3, 2, 3, 3, 3, 0, 3, 3, 3, 3, 2, 3, 3, 3, 0, 2, 3, 3] [0, 2, 3, 4, 5, 6, 1, 7, 8, 9, 11, 12, 13, 14, 10, 15, 16, 17] (by kernel_rfl) (by kernel_rfl) (fun _ _ h => h) ct1 ?_
    repeat (first | ((first | refine wpMixH_pure rfl rfl (fun K hK => ?_) | refine wpMixH_loc rfl rfl (fun K hK => ?_) | refine wpMixH_any rfl rfl (fun K hK => ?_)); go_simp; refine hK _ _ ?_; clear hK K) | (refine wpMixH_any rfl rfl (fun K hK => ?_); rw [if_pos (by go_simp)]; apply Exists.intro; refine And.intro (fun w2 hS2 => ?_) (hK _ _ ?_); (focus (obtain hs1 := hS2; go_simp; rfl)); clear hK K))
    refine wpMixH_loud rfl rfl (fun m1 K hK => ?_)
    go_wp2_with fail
    refine (T1.out _).mono ?_
    rintro _ w7 ⟨rfl, rfl⟩
    go_wp2_with fail
    refine hK _ _ (fun _ => ct1) ?_; clear hK K
    repeat (first | ((first | refine wpMixH_pure rfl rfl (fun K hK => ?_) | refine wpMixH_loc rfl rfl (fun K hK => ?_) | refine wpMixH_any rfl rfl (fun K hK => ?_)); go_simp; refine hK _ _ ?_; clear hK K) | (refine wpMixH_any rfl rfl (fun K hK => ?_); rw [if_pos (by go_simp)]; apply Exists.intro; refine And.intro (fun w2 hS2 => ?_) (hK _ _ ?_); (focus (obtain hs1 := hS2; go_simp; rfl)); clear hK K))
    refine wpMixH_loud rfl rfl (fun m2 K hK => ?_)
    go_wp2_with fail
    refine (T2.out _).mono ?_
    rintro _ w8 ⟨b8, rfl, S8, p8, m8⟩
    obtain ⟨Au, cu, hLu, cu1, _⟩ := p8.slice
    have T3 := Lib.hid (fun m => walk_b (n := 0) S8 (below_drewNs (Below.refl _ w8) m) (Sl.drewN hLu m |> Cl.lies) hz9.out)
    have ct8 := m8.keep_cell (p := ⟨q, 1, none⟩) ct1
    obtain ⟨rfl, rfl⟩ : At = Au ∧ ct = cu := by
      rw [cu1] at ct8
      simp only [Option.some.injEq, Value.slice.injEq] at ct8
      exact ⟨ct8.1.symm, ct8.2.2.symm⟩
    replace p8 := Lib.hid p8
    replace m8 := Lib.hid m8
    clear T1 T2 S8 hLu ct8 ct1
    go_wp2_with fail
    refine hK _ _ (fun _ => cu1) ?_; clear hK K
    repeat (first | ((first | refine wpMixH_pure rfl rfl (fun K hK => ?_) | refine wpMixH_loc rfl rfl (fun K hK => ?_) | refine wpMixH_any rfl rfl (fun K hK => ?_)); go_simp; refine hK _ _ ?_; clear hK K) | (refine wpMixH_any rfl rfl (fun K hK => ?_); rw [if_pos (by go_simp)]; apply Exists.intro; refine And.intro (fun w2 hS2 => ?_) (hK _ _ ?_); (focus (obtain hs1 := hS2; go_simp; rfl)); clear hK K))
    refine wpMixH_loud rfl rfl (fun m3 K hK => ?_)
    go_wp2_with fail
    refine (T3.out _).mono ?_
    rintro _ w9 ⟨rfl, m9⟩
    replace m9 := Lib.hid m9
    clear T3 cu1
    go_wp2_with fail
    refine hK _ _ (fun h => (Bool.false_ne_true ((Eq.symm (by kernel_rfl)).trans h)).elim) ?_; clear hK K
    repeat ((first | refine wpMixH_pure rfl rfl (fun K hK => ?_) | refine wpMixH_loc rfl rfl (fun K hK => ?_) | refine wpMixH_any rfl rfl (fun K hK => ?_)); go_simp; refine hK _ _ ?_; clear hK K)
    refine wpMixH_nil (fun m4 => ?_)
    go_wp2
    go_ret
    have q9 : PD (w9.drewN m4) X r q most l := ((p8.out.drewN m3).new_ m9.out).drewN m4
    have g8 : Fr (fun _ => False) W9 (fun _ => False) w8 := ⟨m8.out.os, m8.out.tape, m8.out.output, m8.out.size, m8.out.block, m8.out.new⟩
    have g9 : Fr (fun _ => False) w8 (fun _ => False) w9 := ⟨m9.out.os, m9.out.tape, m9.out.output, m9.out.size, m9.out.block, m9.out.new⟩
    exact ⟨rfl, _, _, q9, ((FF.out.beside g8 fun _ h => h.elim).beside g9 fun _ h => h.elim).drewN m4⟩
end Go.Proofs.YtfhpnlaabgkpjaaDoor
/- reads, by contract: All. -/
namespace Go.Proofs.YtfhpnlaabgkpjaaDoor
open Go.RowKit Go.Shelf
set_option maxHeartbeats 8000000
set_option linter.unusedVariables false
set_option linter.unusedSimpArgs false

set_option maxRecDepth 100000 in
theorem reads_5 {w : World} {X : Nat → Prop} {r q most : Nat} {l : List (Int × Int)} {on a x n : Int} {vc : Value} (h : PD w X r q most l) :
    Calls Tryd.prog 12 #[.pointer (some ⟨r, 0, none⟩), .pointer (some ⟨q, 0, none⟩), .agg #[.int .i64 5, .int .i64 on, .int .u64 a, .int .u64 x, .int .i64 n, vc]] w fun e w' => e = .returned (.bool true) ∧ ∃ X' l', PD w' X' r q most l' ∧ Fr X w X' w' := by
  obtain ⟨Aq, cq, hLq, c1, _⟩ := h.slice
  have hmx : Tryd.prog.follows .mixedOrders = true := by kernel_rfl
  have hXl := Lib.hid h.lt
  have hlm := h.hm
  have hll := h.hl
  have hz1 := Lib.hid (show 0 + l.length ≤ 9223372036854775807 by omega)
  have hz2 := Lib.hid (show (0 + l.length) * 16 ≤ 140737488355328 by omega)
  obtain ⟨W0, hW0⟩ : ∃ u, Hid (u = w.alloc (.cells #[.int .i64 5, .int .i64 on, .int .u64 a, .int .u64 x, .int .i64 n, vc] 41)) := ⟨_, Lib.hid rfl⟩
  have b0 : Hid (Blk W0 w.heap.size 41 #[.int .i64 5, .int .i64 on, .int .u64 a, .int .u64 x, .int .i64 n, vc]) := Lib.hid (by rw [hW0.out]; exact Blk.new _ _ _)
  have f0 : Hid (Fr (fun _ => False) w (fun _ => False) W0) := Lib.hid (by rw [hW0.out]; exact (Fr.refl _ w).alloc _)
  have p0 := Lib.hid (h.new_ f0.out)
  have c1 := f0.out.keep_cell c1
  have L0 := Lib.hid (Sl.fr hLq f0.out fun _ _ h => h)
  have L1 : Hid (Cl (W0.alloc (.cells #[] 55)) (.slice Aq l.length cq) l) := Lib.hid (Sl.alloc L0.out _)
  have N1 : Hid (Cl (W0.alloc (.cells #[] 55)) (.slice (some ⟨W0.heap.size, 0, none⟩) 0 0) []) := Lib.hid (Sl.new encC_len W0 [] (by simp))
  have c1 := cell_alloc_ (o := .cells #[] 55) c1
  clear hLq h hlm hll L0
  go_enter Tryd.func12, Tryd.ntmps12
  go_upto_region 1 with (fail)
  rw [← hW0.out]
  go_wp2_with (at_builtin; refine wpList_cells (W0.alloc (.cells #[] 55)) rfl (.tmp 18) (.tmp 22) rfl (.slice (some ⟨W0.heap.size, 0, none⟩) 0 0) (.slice Aq l.length cq) [] l rfl N1.out rfl L1.out hz1.out hz2.out ?_; intro A3 cp3 w3 hc3 hv3 hm3; have V3 := Lib.hid hv3; have M3 := Lib.hid hm3; clear hv3 hm3)
  have f3 : Hid (Fr (fun _ => False) W0 (fun _ => False) w3) := Lib.hid (((((Fr.refl (fun _ => False) W0).alloc (.cells #[] 55)).into (G := own (.slice (some ⟨W0.heap.size, 0, none⟩) 0 0)) (fun k hk => .inr (.inr (Nat.le_of_eq (by simpa [own, Value.ownBlock] using hk))))).trans M3.out).into fun _ h => h.elim)
  have p3 := Lib.hid (p0.out.new_ f3.out)
  have b3 := Lib.hid (f3.out.blk b0.out fun h => h)
  have f3w := Lib.hid (f0.out.trans f3.out)
  clear M3 N1 L1 c1 hW0 f0 f3 b0 p0
  refine p3.out.all_b.mono ?_
  rintro _ w4 ⟨b, rfl, S4, p4, m4⟩
  have V4 : Hid (Cl w4 (.slice A3 (([] : List (Int × Int)).length + l.length) cp3) ([] ++ l)) := Lib.hid (Sl.fr V3.out m4 fun _ _ h => h)
  replace S4 := Lib.hid S4
  replace p4 := Lib.hid p4
  have b4 := Lib.hid (m4.blk b3.out fun h => h)
  have f4 := Lib.hid (f3w.out.trans m4)
  clear V3 p3 b3 f3w m4
  have o0 : w4.cell? ⟨w.heap.size, 0, none⟩ = some (.int .i64 5) := b4.out.cell 0
  have o2 : w4.cell? ⟨w.heap.size, 2, none⟩ = some (.int .u64 a) := b4.out.cell 2
  have o3 : w4.cell? ⟨w.heap.size, 3, none⟩ = some (.int .u64 x) := b4.out.cell 3
  have o4 : w4.cell? ⟨w.heap.size, 4, none⟩ = some (.int .i64 n) := b4.out.cell 4
  have o5 : w4.cell? ⟨w.heap.size, 5, none⟩ = some vc := b4.out.cell 5
  have hob : Hid (¬ X w.heap.size) := Lib.hid fun hx => Nat.lt_irrefl _ (hXl.out _ hx)
  generalize w.heap.size = ob at *
  clear hXl
  obtain ⟨Ax, cx, hLx, cx1, _, _, _, cxm⟩ := p4.out.slice
  have hml := p4.out.hm
  have hll := p4.out.hl
  have hlli : (l.length : Int) ≤ 1048576 := by omega
  have e0 : ([] : List (Int × Int)).length + l.length = l.length := Nat.zero_add _
  rw [e0, List.nil_append] at V4
  have C1 := Lib.hid (fun m => walk_b (n := n) S4.out (below_drewNs (Below.refl _ w4) m) (Cl.lies (Sl.drewN hLx m)) (by omega))
  have C2 := Lib.hid (fun (u : World) (hu : Fr (fun _ => False) w4 (fun _ => False) u) => walk_b (n := 0) S4.out (hu.below (B := w4.heap.size) (fun _ h => h.elim) (Nat.le_refl _)) (Cl.lies (Sl.fr V4.out hu fun _ _ h => h)) (by omega))
  clear hLx hml hll V4 S4 o2 o3 o5 b4
  go_wp2_with fail
  refine wp_region_mixH (fun _ => True) [3, 3, 3, 3, 1, 3, 1, 2, 3, 3, 3, 3, 2, 3, 3] (List.range 15) (by kernel_rfl) (by kernel_rfl) (fun _ _ h => h) trivial ?_
  repeat ((first | refine wpMixH_pure rfl rfl (fun K hK => ?_) | refine wpMixH_loc rfl rfl (fun K hK => ?_) | refine wpMixH_any rfl rfl (fun K hK => ?_)); go_simp; refine hK _ _ ?_; clear hK K)
  refine wpMixH_loud rfl rfl (fun m1 K hK => ?_)
  go_wp2_with fail
  refine (C1.out _).mono ?_
  rintro _ w5 ⟨rfl, f5⟩
  have f5w : Hid (Fr (fun _ => False) w4 (fun _ => False) w5) := Lib.hid ⟨f5.os, f5.tape, f5.output, f5.size, f5.block, f5.new⟩
  clear f5 C1 o4 o0
  go_wp2_with fail
  refine hK _ _ (fun h => (Bool.false_ne_true ((Eq.symm (by kernel_rfl)).trans h)).elim) ?_; clear hK K
  repeat ((first | refine wpMixH_pure rfl rfl (fun K hK => ?_) | refine wpMixH_loc rfl rfl (fun K hK => ?_) | refine wpMixH_any rfl rfl (fun K hK => ?_)); go_simp; refine hK _ _ ?_; clear hK K)
  refine wpMixH_loud rfl rfl (fun m2 K hK => ?_)
  go_wp2_with fail
  refine (C2.out _ (f5w.out.drewN m2)).mono ?_
  rintro _ w6 ⟨rfl, f6⟩
  have f6w : Hid (Fr (fun _ => False) w5 (fun _ => False) w6) := Lib.hid ⟨f6.os, f6.tape, f6.output, f6.size, f6.block, f6.new⟩
  clear f6 C2
  go_wp2_with fail
  refine hK _ _ (fun h => (Bool.false_ne_true ((Eq.symm (by kernel_rfl)).trans h)).elim) ?_; clear hK K
  repeat ((first | refine wpMixH_pure rfl rfl (fun K hK => ?_) | refine wpMixH_loc rfl rfl (fun K hK => ?_) | refine wpMixH_any rfl rfl (fun K hK => ?_)); go_simp; refine hK _ _ ?_; clear hK K)
  refine wpMixH_nil (fun m3 => ?_)
  have PP := Lib.hid ((p4.out.new_ (f5w.out.trans f6w.out)).drewN m3)
  have FF : Hid (Fr X w X (w6.drewN m3)) := Lib.hid (((Fr.refl X w).beside ((f4.out.trans f5w.out).trans f6w.out) fun _ h => h.elim).drewN m3)
  clear p4 f4 f5w f6w cx1
  go_upto_region 29 with (fail)
  generalize w6.drewN m3 = W9 at *
  obtain ⟨At, ct, _, ct1, _, _, _, ctm⟩ := PP.out.slice
  have hlm := PP.out.hm
  have hll := PP.out.hl
  have hlli : (l.length : Int) ≤ 1048576 := by omega
  have T1 := Lib.hid (fun m => (PP.out.drewN m).len_b)
  have T2 := Lib.hid (fun m => (PP.out.drewN m).all_b)
  have hz9 := Lib.hid (show l.length ≤ 4611686018427387904 by omega)
  clear hlm hll
  refine wp_region_mixH (fun W => W.cell? ⟨q, 1, none⟩ = some (.slice At l.length ct)) [3, 2, 3, 3, 3, 0, 3, 3, 3, 3, 2, 3, 3, 3, 0, 2, 3, 3] [0, 2, 3, 4, 5, 6, 1, 7, 8, 9, 11, 12, 13, 14, 10, 15, 16, 17] (by kernel_rfl) (by kernel_rfl) (fun _ _ h => h) ct1 ?_
  repeat (first | ((first | refine wpMixH_pure rfl rfl (fun K hK => ?_) | refine wpMixH_loc rfl rfl (fun K hK => ?_) | refine wpMixH_any rfl rfl (fun K hK => ?_)); go_simp; refine hK _ _ ?_; clear hK K) | (refine wpMixH_any rfl rfl (fun K hK => ?_); rw [if_pos (by go_simp)]; apply Exists.intro; refine And.intro (fun w2 hS2 => ?_) (hK _ _ ?_); (focus (obtain hs1 := hS2; go_simp; rfl)); clear hK K))
  refine wpMixH_loud rfl rfl (fun m1 K hK => ?_)
  go_wp2_with fail
  refine (T1.out _).mono ?_
  rintro _ w7 ⟨rfl, rfl⟩
  go_wp2_with fail
  refine hK _ _ (fun _ => ct1) ?_; clear hK K
  repeat (first | ((first | refine wpMixH_pure rfl rfl (fun K hK => ?_) | refine wpMixH_loc rfl rfl (fun K hK => ?_) | refine wpMixH_any rfl rfl (fun K hK => ?_)); go_simp; refine hK _ _ ?_; clear hK K) | (refine wpMixH_any rfl rfl (fun K hK => ?_); rw [if_pos (by go_simp)]; apply Exists.intro; refine And.intro (fun w2 hS2 => ?_) (hK _ _ ?_); (focus (obtain hs1 := hS2; go_simp; rfl)); clear hK K))
  refine wpMixH_loud rfl rfl (fun m2 K hK => ?_)
  go_wp2_with fail
  refine (T2.out _).mono ?_
  rintro _ w8 ⟨b8, rfl, S8, p8, m8⟩
  obtain ⟨Au, cu, hLu, cu1, _⟩ := p8.slice
  have T3 := Lib.hid (fun m => walk_b (n := 0) S8 (below_drewNs (Below.refl _ w8) m) (Sl.drewN hLu m |> Cl.lies) hz9.out)
  have ct8 := m8.keep_cell (p := ⟨q, 1, none⟩) ct1
  obtain ⟨rfl, rfl⟩ : At = Au ∧ ct = cu := by
    rw [cu1] at ct8
    simp only [Option.some.injEq, Value.slice.injEq] at ct8
    exact ⟨ct8.1.symm, ct8.2.2.symm⟩
  replace p8 := Lib.hid p8
  replace m8 := Lib.hid m8
  clear T1 T2 S8 hLu ct8 ct1
  go_wp2_with fail
  refine hK _ _ (fun _ => cu1) ?_; clear hK K
  repeat (first | ((first | refine wpMixH_pure rfl rfl (fun K hK => ?_) | refine wpMixH_loc rfl rfl (fun K hK => ?_) | refine wpMixH_any rfl rfl (fun K hK => ?_)); go_simp; refine hK _ _ ?_; clear hK K) | (refine wpMixH_any rfl rfl (fun K hK => ?_); rw [if_pos (by go_simp)]; apply Exists.intro; refine And.intro (fun w2 hS2 => ?_) (hK _ _ ?_); (focus (obtain hs1 := hS2; go_simp; rfl)); clear hK K))
  refine wpMixH_loud rfl rfl (fun m3 K hK => ?_)
  go_wp2_with fail
  refine (T3.out _).mono ?_
  rintro _ w9 ⟨rfl, m9⟩
  replace m9 := Lib.hid m9
  clear T3 cu1
  go_wp2_with fail
  refine hK _ _ (fun h => (Bool.false_ne_true ((Eq.symm (by kernel_rfl)).trans h)).elim) ?_; clear hK K
  repeat ((first | refine wpMixH_pure rfl rfl (fun K hK => ?_) | refine wpMixH_loc rfl rfl (fun K hK => ?_) | refine wpMixH_any rfl rfl (fun K hK => ?_)); go_simp; refine hK _ _ ?_; clear hK K)
  refine wpMixH_nil (fun m4 => ?_)
  go_wp2
  go_ret
  have q9 : PD (w9.drewN m4) X r q most l := ((p8.out.drewN m3).new_ m9.out).drewN m4
  have g8 : Fr (fun _ => False) W9 (fun _ => False) w8 := ⟨m8.out.os, m8.out.tape, m8.out.output, m8.out.size, m8.out.block, m8.out.new⟩
  have g9 : Fr (fun _ => False) w8 (fun _ => False) w9 := ⟨m9.out.os, m9.out.tape, m9.out.output, m9.out.size, m9.out.block, m9.out.new⟩
  exact ⟨rfl, _, _, q9, ((FF.out.beside g8 fun _ h => h.elim).beside g9 fun _ h => h.elim).drewN m4⟩
end Go.Proofs.YtfhpnlaabgkpjaaDoor
/- LogsReads: the law's walk. -/
namespace Go.Proofs.YtfhpnlaabgkpjaaDoor
open Go.RowKit Go.Shelf
set_option maxHeartbeats 8000000
set_option linter.unusedVariables false
set_option linter.unusedSimpArgs false

theorem reads_b {w : World} {X : Nat → Prop} {r q most : Nat} {l : List (Int × Int)} {kd on a x n : Int} {vc : Value} {cs : List Int} (h : PD w X r q most l) (ha : 0 ≤ a ∧ a ≤ 18446744073709551615) (hn : -9223372036854775808 ≤ n ∧ n ≤ 9223372036854775807) (hv : Lies w vc cs) (hc : cs.length * 8 ≤ 140737488351232) :
    Calls Tryd.prog 12 #[.pointer (some ⟨r, 0, none⟩), .pointer (some ⟨q, 0, none⟩), .agg #[.int .i64 kd, .int .i64 on, .int .u64 a, .int .u64 x, .int .i64 n, vc]] w fun e w' => e = .returned (.bool true) ∧ ∃ X' l', PD w' X' r q most l' ∧ Fr X w X' w' := by
  have hl : (l.length : Int) ≤ 1048576 := by have := h.hm; have := h.hl; omega
  by_cases k1 : kd = 1
  · subst k1; exact reads_1 ha h
  by_cases k2 : kd = 2
  · subst k2
    by_cases hr : 0 ≤ n ∧ n ≤ l.length
    · exact reads_2 ⟨n.toNat, by omega, by omega⟩ h
    · exact reads_2n (by omega) hn.1 hn.2 h
  by_cases k3 : kd = 3
  · subst k3; exact reads_3 hv (by omega) h
  by_cases k4 : kd = 4
  · subst k4
    by_cases hr : 0 ≤ n ∧ n < l.length
    · exact reads_4 ⟨n.toNat, by omega, by omega⟩ h
    · exact reads_4n (by omega) hn.1 hn.2 h
  by_cases k5 : kd = 5
  · subst k5; exact reads_5 h
  exact reads_0 (by simpa using k1) (by simpa using k2) (by simpa using k3) (by simpa using k4) (by simpa using k5) h
set_option maxRecDepth 100000 in
theorem logsReads_no {w : World} {most : Int} {A : Option Addr} {n c : Nat} (hm : most < 0 ∨ 1048576 < most) (h1 : -9223372036854775808 ≤ most) (h2 : most ≤ 9223372036854775807) (hT : Tab w) :
    Calls Tryd.prog 3 #[.int .i64 most, .slice A n c] w fun e w' => e = .returned (.bool true) ∧ Fr (fun _ => False) w (fun _ => False) w' := by
  have N1 := Lib.hid (newReads_no (w := w) hm h1 h2)
  have M1 := Lib.hid (noReads_b (w := w) (p := none) (.inl rfl))
  have hcase : decide (most < 0) = true ∨ (decide (most < 0) = false ∧ decide (most > 1048576) = true) := by
    by_cases h0 : most < 0
    · exact .inl (decide_eq_true h0)
    · exact .inr ⟨decide_eq_false h0, decide_eq_true (by omega)⟩
  replace hT := Lib.hid hT
  clear hm
  go_enter Tryd.func3, Tryd.ntmps3
  go_wp2_with fail
  refine N1.out.mono ?_
  rintro _ u ⟨rfl, rfl⟩
  go_wp2_with fail
  refine N1.out.mono ?_
  rintro _ u ⟨rfl, rfl⟩
  rcases hcase with hd0 | ⟨hd0, hd1⟩
  all_goals
    go_wp2_with fail
    refine num_b.mono ?_
    rintro _ u ⟨rfl, rfl⟩
    go_wp2_with fail
    refine M1.out.mono ?_
    rintro _ w1 ⟨rfl, f1⟩
    have M2 := Lib.hid (noReads_b (w := w1.alloc (.cells #[.bool false, .int .i64 0, .slice none 0 0] 31)) (p := some ⟨w1.heap.size, 0, none⟩) (.inr ⟨_, rfl, Blk.new _ _ _⟩))
    replace f1 := Lib.hid f1
    go_wp2_with fail
    refine M2.out.mono ?_
    rintro _ w2 ⟨rfl, f2⟩
    have f2w := Lib.hid ((f1.out.alloc (.cells #[.bool false, .int .i64 0, .slice none 0 0] 31)).trans f2)
    have W2 := Lib.hid (works_b (hT.out.frs f2w.out fun h => h))
    clear M2 f1 f2
    go_wp2_with fail
    refine W2.out.mono ?_
    rintro _ w3 ⟨rfl, f3⟩
    replace f3 := Lib.hid f3
    go_wp2
    go_ret
    exact ⟨rfl, f2w.out.trans f3.out⟩
theorem LS.start {w w1 w2 w3 w4 w5 w6 : World} {r0 r1 mm : Nat} {F0 F1 : Nat → Prop} (hT : Tab w) (hm : mm ≤ 1048576) (h0 : RdW w1 r0 F0 mm []) (f0 : Fr (fun _ => False) w F0 w1) (h1 : RdW w2 r1 F1 mm []) (f1 : Fr (fun _ => False) w1 F1 w2)
    (e3 : w3 = w2.alloc (.cells #[.pointer (some ⟨r0, 0, none⟩), .pointer (some ⟨r1, 0, none⟩)] 33)) (e4 : w4 = w3.alloc (.cells #[.int .i64 (mm : Int), .slice none 0 0] 36))
    (e5 : w5 = w4.alloc (.cells #[.int .i64 (mm : Int), .slice none 0 0] 36)) (e6 : w6 = w5.alloc (.cells #[.pointer (some ⟨w3.heap.size, 0, none⟩), .pointer (some ⟨w4.heap.size, 0, none⟩)] 37)) :
    ∃ r q X, r 0 = r0 ∧ r 1 = r1 ∧ q 0 = w3.heap.size ∧ q 1 = w4.heap.size ∧ LS w w6 w2.heap.size w5.heap.size r q mm X (fun _ => []) := by
  have f3 : Fr (fun _ => False) w2 (fun _ => False) w3 := by rw [e3]; exact (Fr.refl _ w2).alloc _
  have f4 : Fr (fun _ => False) w3 (fun _ => False) w4 := by rw [e4]; exact (Fr.refl _ w3).alloc _
  have f5 : Fr (fun _ => False) w4 (fun _ => False) w5 := by rw [e5]; exact (Fr.refl _ w4).alloc _
  have f6 : Fr (fun _ => False) w5 (fun _ => False) w6 := by rw [e6]; exact (Fr.refl _ w5).alloc _
  have s3 : w3.heap.size = w2.heap.size + 1 := by rw [e3]; simp
  have s4 : w4.heap.size = w3.heap.size + 1 := by rw [e4]; simp
  have s5 : w5.heap.size = w4.heap.size + 1 := by rw [e5]; simp
  have b3 : Blk w3 w2.heap.size 33 #[.pointer (some ⟨r0, 0, none⟩), .pointer (some ⟨r1, 0, none⟩)] := by rw [e3]; exact Blk.new _ _ _
  have b4 : Blk w4 w3.heap.size 36 #[.int .i64 (mm : Int), .slice none 0 0] := by rw [e4]; exact Blk.new _ _ _
  have b5 : Blk w5 w4.heap.size 36 #[.int .i64 (mm : Int), .slice none 0 0] := by rw [e5]; exact Blk.new _ _ _
  have b6 : Blk w6 w5.heap.size 37 #[.pointer (some ⟨w3.heap.size, 0, none⟩), .pointer (some ⟨w4.heap.size, 0, none⟩)] := by rw [e6]; exact Blk.new _ _ _
  have g26 := ((f3.trans f4).trans f5).trans f6
  have l0 : LgR w6 w3.heap.size (fun b => b = w3.heap.size ∨ own (.slice none ([] : List (Int × Int)).length 0) b) mm [] := ⟨none, 0, rfl, (f5.trans f6).blk b4 fun h => h, Sl.nil _⟩
  have l1 : LgR w6 w4.heap.size (fun b => b = w4.heap.size ∨ own (.slice none ([] : List (Int × Int)).length 0) b) mm [] := ⟨none, 0, rfl, f6.blk b5 fun h => h, Sl.nil _⟩
  have hF0 : ∀ b, F0 b → w.heap.size ≤ b ∧ b < w1.heap.size := fun b hb => ⟨(f0.new b hb).elim (fun h => h.elim) id, h0.lt b hb⟩
  have hF1 : ∀ b, F1 b → w1.heap.size ≤ b ∧ b < w2.heap.size := fun b hb => ⟨(f1.new b hb).elim (fun h => h.elim) id, h1.lt b hb⟩
  have z0 := f0.size
  have z1 := f1.size
  have p0 : PD w6 (fun b => F0 b ∨ (b = w3.heap.size ∨ own (.slice none ([] : List (Int × Int)).length 0) b)) r0 w3.heap.size mm [] :=
    ⟨⟨_, _, rfl, (h0.fr f1 fun _ _ h => h).fr g26 fun _ _ h => h, l0, fun b hb hb2 => by rcases hb2 with h | h; have := (hF0 b hb).2; omega; exact own_nil' _ _ _ h⟩, hm, Nat.zero_le _, by simp⟩
  have p1 : PD w6 (fun b => F1 b ∨ (b = w4.heap.size ∨ own (.slice none ([] : List (Int × Int)).length 0) b)) r1 w4.heap.size mm [] :=
    ⟨⟨_, _, rfl, h1.fr g26 fun _ _ h => h, l1, fun b hb hb2 => by rcases hb2 with h | h; have := (hF1 b hb).2; omega; exact own_nil' _ _ _ h⟩, hm, Nat.zero_le _, by simp⟩
  have fw : Fr (fun _ => False) w (fun _ => False) w6 := ((((Fr.refl (fun _ => False) w).beside f0 fun _ h => h.elim).beside f1 fun _ h => h.elim)).trans g26
  refine ⟨fun j => if j = 0 then r0 else r1, fun j => if j = 0 then w3.heap.size else w4.heap.size, fun j => if j = 0 then (fun b => F0 b ∨ (b = w3.heap.size ∨ own (.slice none ([] : List (Int × Int)).length 0) b)) else fun b => F1 b ∨ (b = w4.heap.size ∨ own (.slice none ([] : List (Int × Int)).length 0) b), rfl, rfl, rfl, rfl,
    fun j hj => ?_, fun j k hj hk hjk b hb hb2 => ?_, ((f4.trans f5).trans f6).blk b3 fun h => h, b6, fun j hj b hb => ?_, by omega, by omega, fw, hT⟩
  · rcases (by omega : j = 0 ∨ j = 1) with rfl | rfl
    · exact p0
    · exact p1
  · have q : ∀ b, (F0 b ∨ (b = w3.heap.size ∨ own (.slice none ([] : List (Int × Int)).length 0) b)) → (F1 b ∨ (b = w4.heap.size ∨ own (.slice none ([] : List (Int × Int)).length 0) b)) → False := fun b h1 h2 => by
      rcases h1 with h1 | h1 | h1
      · have a1 := hF0 b h1
        rcases h2 with h2 | h2 | h2
        · have a2 := hF1 b h2; omega
        · omega
        · exact own_nil' _ _ _ h2
      · rcases h2 with h2 | h2 | h2
        · have a2 := hF1 b h2; omega
        · omega
        · exact own_nil' _ _ _ h2
      · exact own_nil' _ _ _ h1
    rcases (by omega : (j = 0 ∧ k = 1) ∨ (j = 1 ∧ k = 0)) with ⟨rfl, rfl⟩ | ⟨rfl, rfl⟩
    · exact q b hb hb2
    · exact q b hb2 hb
  · rcases (by omega : j = 0 ∨ j = 1) with rfl | rfl
    · rcases hb with h | h | h
      · have := hF0 b h; exact ⟨by omega, by omega, by omega⟩
      · exact ⟨by omega, by omega, by omega⟩
      · exact (own_nil' _ _ _ h).elim
    · rcases hb with h | h | h
      · have := hF1 b h; exact ⟨by omega, by omega, by omega⟩
      · exact ⟨by omega, by omega, by omega⟩
      · exact (own_nil' _ _ _ h).elim
end Go.Proofs.YtfhpnlaabgkpjaaDoor
