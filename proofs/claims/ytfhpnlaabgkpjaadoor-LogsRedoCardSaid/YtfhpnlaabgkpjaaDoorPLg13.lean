/- reads, by contract: Cut. -/
import Derived.Deep.DeepCutAuto
import Derived.Test.YtfhpnlaabgkpjaaDoorPLg6
import Derived.Test.YtfhpnlaabgkpjaaDoorPLg7
namespace Go.Proofs.YtfhpnlaabgkpjaaDoor
open Go.RowKit Go.Shelf
set_option maxHeartbeats 8000000
set_option linter.unusedVariables false
set_option linter.unusedSimpArgs false

set_option maxRecDepth 100000 in
theorem reads_2 {w : World} {X : Nat → Prop} {r q most : Nat} {l : List (Int × Int)} {on a x n : Int} {vc : Value} (hn : ∃ nn : Nat, n = (nn : Int) ∧ nn ≤ l.length) (h : PD w X r q most l) :
    Calls Tryd.prog 12 #[.pointer (some ⟨r, 0, none⟩), .pointer (some ⟨q, 0, none⟩), .agg #[.int .i64 2, .int .i64 on, .int .u64 a, .int .u64 x, .int .i64 n, vc]] w fun e w' => e = .returned (.bool true) ∧ ∃ X' l', PD w' X' r q most l' ∧ Fr X w X' w' := by
  obtain ⟨nn, hn0, hnn⟩ := hn
  replace hn0 := hn0.symm
  subst hn0
  have hnn9 := Lib.hid hnn
  clear hnn
  obtain ⟨Aq, cq, hLq, c1, _⟩ := h.slice
  have hmx : Tryd.prog.follows .mixedOrders = true := by kernel_rfl
  have hXl := Lib.hid h.lt
  have hlm := h.hm
  have hll := h.hl
  have hz1 := Lib.hid (show 0 + l.length ≤ 9223372036854775807 by omega)
  have hz2 := Lib.hid (show (0 + l.length) * 16 ≤ 140737488355328 by omega)
  obtain ⟨W0, hW0⟩ : ∃ u, Hid (u = w.alloc (.cells #[.int .i64 2, .int .i64 on, .int .u64 a, .int .u64 x, .int .i64 (nn : Int), vc] 41)) := ⟨_, Lib.hid rfl⟩
  have b0 : Hid (Blk W0 w.heap.size 41 #[.int .i64 2, .int .i64 on, .int .u64 a, .int .u64 x, .int .i64 (nn : Int), vc]) := Lib.hid (by rw [hW0.out]; exact Blk.new _ _ _)
  have f0 : Hid (Fr (fun _ => False) w (fun _ => False) W0) := Lib.hid (by rw [hW0.out]; exact (Fr.refl _ w).alloc _)
  have p0 := Lib.hid (h.new_ f0.out)
  have c1 := f0.out.keep_cell c1
  have L0 := Lib.hid (Sl.fr hLq f0.out fun _ _ h => h)
  have L1 : Hid (Cl (W0.alloc (.cells #[] 55)) (.slice Aq l.length cq) l) := Lib.hid (Sl.alloc L0.out _)
  have N1 : Hid (Cl (W0.alloc (.cells #[] 55)) (.slice (some ⟨W0.heap.size, 0, none⟩) 0 0) []) := Lib.hid (Sl.new encC_len W0 [] (by simp))
  have c1 := cell_alloc_ (o := .cells #[] 55) c1
  clear hLq h hlm hll L0
  go_enter Tryd.func12, Tryd.ntmps12
  go_upto_region 1 with (fail)
  rw [← hW0.out]
  go_wp2_with (at_builtin; refine wpList_cells (W0.alloc (.cells #[] 55)) rfl (.tmp 18) (.tmp 22) rfl (.slice (some ⟨W0.heap.size, 0, none⟩) 0 0) (.slice Aq l.length cq) [] l rfl N1.out rfl L1.out hz1.out hz2.out ?_; intro A3 cp3 w3 hc3 hv3 hm3; have V3 := Lib.hid hv3; have M3 := Lib.hid hm3; clear hv3 hm3)
  have f3 : Hid (Fr (fun _ => False) W0 (fun _ => False) w3) := Lib.hid (((((Fr.refl (fun _ => False) W0).alloc (.cells #[] 55)).into (G := own (.slice (some ⟨W0.heap.size, 0, none⟩) 0 0)) (fun k hk => .inr (.inr (Nat.le_of_eq (by simpa [own, Value.ownBlock] using hk))))).trans M3.out).into fun _ h => h.elim)
  have p3 := Lib.hid (p0.out.new_ f3.out)
  have b3 := Lib.hid (f3.out.blk b0.out fun h => h)
  have f3w := Lib.hid (f0.out.trans f3.out)
  clear M3 N1 L1 c1 hW0 f0 f3 b0 p0
  refine p3.out.all_b.mono ?_
  rintro _ w4 ⟨b, rfl, S4, p4, m4⟩
  have V4 : Hid (Cl w4 (.slice A3 (([] : List (Int × Int)).length + l.length) cp3) ([] ++ l)) := Lib.hid (Sl.fr V3.out m4 fun _ _ h => h)
  replace S4 := Lib.hid S4
  replace p4 := Lib.hid p4
  have b4 := Lib.hid (m4.blk b3.out fun h => h)
  have f4 := Lib.hid (f3w.out.trans m4)
  clear V3 p3 b3 f3w m4
  have o0 : w4.cell? ⟨w.heap.size, 0, none⟩ = some (.int .i64 2) := b4.out.cell 0
  have o2 : w4.cell? ⟨w.heap.size, 2, none⟩ = some (.int .u64 a) := b4.out.cell 2
  have o3 : w4.cell? ⟨w.heap.size, 3, none⟩ = some (.int .u64 x) := b4.out.cell 3
  have o4 : w4.cell? ⟨w.heap.size, 4, none⟩ = some (.int .i64 (nn : Int)) := b4.out.cell 4
  have o5 : w4.cell? ⟨w.heap.size, 5, none⟩ = some vc := b4.out.cell 5
  have hob : Hid (¬ X w.heap.size) := Lib.hid fun hx => Nat.lt_irrefl _ (hXl.out _ hx)
  generalize w.heap.size = ob at *
  clear hXl
  clear V4 S4 b4
  have C1 := Lib.hid (p4.out.cut_b hnn9.out)
  go_wp2_with fail
  refine C1.out.mono ?_
  rintro _ w5 ⟨rfl, hk5, A5, cp5, q5, z5, hc5, hm5, H5⟩
  have o45 : w5.cell? ⟨ob, 4, none⟩ = some (.int .i64 (nn : Int)) := hk5 _ _ o4 hob.out
  replace H5 := Lib.hid H5
  have hnl : (nn : Int) ≤ (l.length : Int) := by have := hnn9.out; omega
  have hnc : (nn : Int) ≤ (cp5 : Int) := by omega
  have hn0 : decide ((nn : Int) < 0) = false := decide_eq_false (by omega)
  have hn1 : decide (nn > l.length) = false := decide_eq_false (by omega)
  have hn2 : decide (nn ≤ cp5) = true := decide_eq_true (by omega)
  clear C1 hk5 o2 o3 o4 o5 o0
  go_wp2_with fail
  refine wp_region_mixH (fun _ => True) [3, 1, 3, 3, 3, 1, 3, 3, 3, 1, 3, 3, 3] (List.range 13) (by kernel_rfl) (by kernel_rfl) (fun _ _ h => h) trivial ?_
  repeat ((first | refine wpMixH_pure rfl rfl (fun K hK => ?_) | refine wpMixH_loc rfl rfl (fun K hK => ?_) | refine wpMixH_any rfl rfl (fun K hK => ?_)); go_simp; refine hK _ _ ?_; clear hK K)
  refine wpMixH_nil (fun m1 => ?_)
  go_wp2_with fail
  refine num_b.mono ?_
  rintro _ u6 ⟨rfl, rfl⟩
  go_wp2_with fail
  refine wp_region_mixH (fun _ => True) [3, 3, 3, 3, 1, 3, 1, 3, 1, 3, 3, 3, 2] (List.range 13) (by kernel_rfl) (by kernel_rfl) (fun _ _ h => h) trivial ?_
  repeat ((first | refine wpMixH_pure rfl rfl (fun K hK => ?_) | refine wpMixH_loc rfl rfl (fun K hK => ?_) | refine wpMixH_any rfl rfl (fun K hK => ?_)); go_simp; refine hK _ _ ?_; clear hK K)
  refine wpMixH_loud rfl rfl (fun m2 K hK => ?_)
  go_wp2_with fail
  refine hK _ _ (fun h => (Bool.false_ne_true ((Eq.symm (by kernel_rfl)).trans h)).elim) ?_; clear hK K
  refine wpMixH_nil (fun m3 => ?_)
  go_upto_region 29 with (fail)
  obtain ⟨X6, p6, f6⟩ := H5.out (1 + m1 + 1 + m2)
  have PP := Lib.hid (p6.drewN m3)
  have FF : Hid (Fr X w X6 (((w5.drewN (1 + m1 + 1 + m2)).setCell ⟨q, 1, none⟩ (.slice A5 nn nn)).drewN m3)) := Lib.hid ((((Fr.refl X w).beside f4.out fun _ h => h.elim).trans f6).drewN m3)
  clear p6 f6 H5
  generalize ((w5.drewN (1 + m1 + 1 + m2)).setCell ⟨q, 1, none⟩ (.slice A5 nn nn)).drewN m3 = W9 at *
  generalize l.take nn = l6 at *
  obtain ⟨At, ct, _, ct1, _, _, _, ctm⟩ := PP.out.slice
  have hlm := PP.out.hm
  have hll := PP.out.hl
  have hlli : (l6.length : Int) ≤ 1048576 := by omega
  have T1 := Lib.hid (fun m => (PP.out.drewN m).len_b)
  have T2 := Lib.hid (fun m => (PP.out.drewN m).all_b)
  have hz9 := Lib.hid (show l6.length ≤ 4611686018427387904 by omega)
  clear hlm hll
  refine wp_region_mixH (fun W => W.cell? ⟨q, 1, none⟩ = some (.slice At l6.length ct)) [3, 2, 3, 3, 3, 0, 3, 3, 3, 3, 2, 3, 3, 3, 0, 2, 3, 3] [0, 2, 3, 4, 5, 6, 1, 7, 8, 9, 11, 12, 13, 14, 10, 15, 16, 17] (by kernel_rfl) (by kernel_rfl) (fun _ _ h => h) ct1 ?_
  repeat (first | ((first | refine wpMixH_pure rfl rfl (fun K hK => ?_) | refine wpMixH_loc rfl rfl (fun K hK => ?_) | refine wpMixH_any rfl rfl (fun K hK => ?_)); go_simp; refine hK _ _ ?_; clear hK K) | (refine wpMixH_any rfl rfl (fun K hK => ?_); rw [if_pos (by go_simp)]; apply Exists.intro; refine And.intro (fun w2 hS2 => ?_) (hK _ _ ?_); (focus (obtain hs1 := hS2; go_simp; rfl)); clear hK K))
  refine wpMixH_loud rfl rfl (fun m1 K hK => ?_)
  go_wp2_with fail
  refine (T1.out _).mono ?_
  rintro _ w7 ⟨rfl, rfl⟩
  go_wp2_with fail
  refine hK _ _ (fun _ => ct1) ?_; clear hK K
  repeat (first | ((first | refine wpMixH_pure rfl rfl (fun K hK => ?_) | refine wpMixH_loc rfl rfl (fun K hK => ?_) | refine wpMixH_any rfl rfl (fun K hK => ?_)); go_simp; refine hK _ _ ?_; clear hK K) | (refine wpMixH_any rfl rfl (fun K hK => ?_); rw [if_pos (by go_simp)]; apply Exists.intro; refine And.intro (fun w2 hS2 => ?_) (hK _ _ ?_); (focus (obtain hs1 := hS2; go_simp; rfl)); clear hK K))
  refine wpMixH_loud rfl rfl (fun m2 K hK => ?_)
  go_wp2_with fail
  refine (T2.out _).mono ?_
  rintro _ w8 ⟨b8, rfl, S8, p8, m8⟩
  obtain ⟨Au, cu, hLu, cu1, _⟩ := p8.slice
  have T3 := Lib.hid (fun m => walk_b (n := 0) S8 (below_drewNs (Below.refl _ w8) m) (Sl.drewN hLu m |> Cl.lies) hz9.out)
  have ct8 := m8.keep_cell (p := ⟨q, 1, none⟩) ct1
  obtain ⟨rfl, rfl⟩ : At = Au ∧ ct = cu := by
    rw [cu1] at ct8
    simp only [Option.some.injEq, Value.slice.injEq] at ct8
    exact ⟨ct8.1.symm, ct8.2.2.symm⟩
  replace p8 := Lib.hid p8
  replace m8 := Lib.hid m8
  clear T1 T2 S8 hLu ct8 ct1
  go_wp2_with fail
  refine hK _ _ (fun _ => cu1) ?_; clear hK K
  repeat (first | ((first | refine wpMixH_pure rfl rfl (fun K hK => ?_) | refine wpMixH_loc rfl rfl (fun K hK => ?_) | refine wpMixH_any rfl rfl (fun K hK => ?_)); go_simp; refine hK _ _ ?_; clear hK K) | (refine wpMixH_any rfl rfl (fun K hK => ?_); rw [if_pos (by go_simp)]; apply Exists.intro; refine And.intro (fun w2 hS2 => ?_) (hK _ _ ?_); (focus (obtain hs1 := hS2; go_simp; rfl)); clear hK K))
  refine wpMixH_loud rfl rfl (fun m3 K hK => ?_)
  go_wp2_with fail
  refine (T3.out _).mono ?_
  rintro _ w9 ⟨rfl, m9⟩
  replace m9 := Lib.hid m9
  clear T3 cu1
  go_wp2_with fail
  refine hK _ _ (fun h => (Bool.false_ne_true ((Eq.symm (by kernel_rfl)).trans h)).elim) ?_; clear hK K
  repeat ((first | refine wpMixH_pure rfl rfl (fun K hK => ?_) | refine wpMixH_loc rfl rfl (fun K hK => ?_) | refine wpMixH_any rfl rfl (fun K hK => ?_)); go_simp; refine hK _ _ ?_; clear hK K)
  refine wpMixH_nil (fun m4 => ?_)
  go_wp2
  go_ret
  have q9 : PD (w9.drewN m4) X6 r q most l6 := ((p8.out.drewN m3).new_ m9.out).drewN m4
  have g8 : Fr (fun _ => False) W9 (fun _ => False) w8 := ⟨m8.out.os, m8.out.tape, m8.out.output, m8.out.size, m8.out.block, m8.out.new⟩
  have g9 : Fr (fun _ => False) w8 (fun _ => False) w9 := ⟨m9.out.os, m9.out.tape, m9.out.output, m9.out.size, m9.out.block, m9.out.new⟩
  exact ⟨rfl, _, _, q9, ((FF.out.beside g8 fun _ h => h.elim).beside g9 fun _ h => h.elim).drewN m4⟩
end Go.Proofs.YtfhpnlaabgkpjaaDoor
/- reads, by contract: Cut of what is not there. -/
namespace Go.Proofs.YtfhpnlaabgkpjaaDoor
open Go.RowKit Go.Shelf
set_option maxHeartbeats 8000000
set_option linter.unusedVariables false
set_option linter.unusedSimpArgs false

set_option maxRecDepth 100000 in
theorem reads_2n {w : World} {X : Nat → Prop} {r q most : Nat} {l : List (Int × Int)} {on a x n : Int} {vc : Value} (hn : n < 0 ∨ (l.length : Int) < n) (hi1 : -9223372036854775808 ≤ n) (hi2 : n ≤ 9223372036854775807) (h : PD w X r q most l) :
    Calls Tryd.prog 12 #[.pointer (some ⟨r, 0, none⟩), .pointer (some ⟨q, 0, none⟩), .agg #[.int .i64 2, .int .i64 on, .int .u64 a, .int .u64 x, .int .i64 n, vc]] w fun e w' => e = .returned (.bool true) ∧ ∃ X' l', PD w' X' r q most l' ∧ Fr X w X' w' := by
  have hn9 := Lib.hid (show (n < 0 ∨ (l.length : Int) < n) ∧ -9223372036854775808 ≤ n ∧ n ≤ 9223372036854775807 from ⟨hn, hi1, hi2⟩)
  clear hn hi1 hi2
  obtain ⟨Aq, cq, hLq, c1, _⟩ := h.slice
  have hmx : Tryd.prog.follows .mixedOrders = true := by kernel_rfl
  have hXl := Lib.hid h.lt
  have hlm := h.hm
  have hll := h.hl
  have hz1 := Lib.hid (show 0 + l.length ≤ 9223372036854775807 by omega)
  have hz2 := Lib.hid (show (0 + l.length) * 16 ≤ 140737488355328 by omega)
  obtain ⟨W0, hW0⟩ : ∃ u, Hid (u = w.alloc (.cells #[.int .i64 2, .int .i64 on, .int .u64 a, .int .u64 x, .int .i64 n, vc] 41)) := ⟨_, Lib.hid rfl⟩
  have b0 : Hid (Blk W0 w.heap.size 41 #[.int .i64 2, .int .i64 on, .int .u64 a, .int .u64 x, .int .i64 n, vc]) := Lib.hid (by rw [hW0.out]; exact Blk.new _ _ _)
  have f0 : Hid (Fr (fun _ => False) w (fun _ => False) W0) := Lib.hid (by rw [hW0.out]; exact (Fr.refl _ w).alloc _)
  have p0 := Lib.hid (h.new_ f0.out)
  have c1 := f0.out.keep_cell c1
  have L0 := Lib.hid (Sl.fr hLq f0.out fun _ _ h => h)
  have L1 : Hid (Cl (W0.alloc (.cells #[] 55)) (.slice Aq l.length cq) l) := Lib.hid (Sl.alloc L0.out _)
  have N1 : Hid (Cl (W0.alloc (.cells #[] 55)) (.slice (some ⟨W0.heap.size, 0, none⟩) 0 0) []) := Lib.hid (Sl.new encC_len W0 [] (by simp))
  have c1 := cell_alloc_ (o := .cells #[] 55) c1
  clear hLq h hlm hll L0
  go_enter Tryd.func12, Tryd.ntmps12
  go_upto_region 1 with (fail)
  rw [← hW0.out]
  go_wp2_with (at_builtin; refine wpList_cells (W0.alloc (.cells #[] 55)) rfl (.tmp 18) (.tmp 22) rfl (.slice (some ⟨W0.heap.size, 0, none⟩) 0 0) (.slice Aq l.length cq) [] l rfl N1.out rfl L1.out hz1.out hz2.out ?_; intro A3 cp3 w3 hc3 hv3 hm3; have V3 := Lib.hid hv3; have M3 := Lib.hid hm3; clear hv3 hm3)
  have f3 : Hid (Fr (fun _ => False) W0 (fun _ => False) w3) := Lib.hid (((((Fr.refl (fun _ => False) W0).alloc (.cells #[] 55)).into (G := own (.slice (some ⟨W0.heap.size, 0, none⟩) 0 0)) (fun k hk => .inr (.inr (Nat.le_of_eq (by simpa [own, Value.ownBlock] using hk))))).trans M3.out).into fun _ h => h.elim)
  have p3 := Lib.hid (p0.out.new_ f3.out)
  have b3 := Lib.hid (f3.out.blk b0.out fun h => h)
  have f3w := Lib.hid (f0.out.trans f3.out)
  clear M3 N1 L1 c1 hW0 f0 f3 b0 p0
  refine p3.out.all_b.mono ?_
  rintro _ w4 ⟨b, rfl, S4, p4, m4⟩
  have V4 : Hid (Cl w4 (.slice A3 (([] : List (Int × Int)).length + l.length) cp3) ([] ++ l)) := Lib.hid (Sl.fr V3.out m4 fun _ _ h => h)
  replace S4 := Lib.hid S4
  replace p4 := Lib.hid p4
  have b4 := Lib.hid (m4.blk b3.out fun h => h)
  have f4 := Lib.hid (f3w.out.trans m4)
  clear V3 p3 b3 f3w m4
  have o0 : w4.cell? ⟨w.heap.size, 0, none⟩ = some (.int .i64 2) := b4.out.cell 0
  have o2 : w4.cell? ⟨w.heap.size, 2, none⟩ = some (.int .u64 a) := b4.out.cell 2
  have o3 : w4.cell? ⟨w.heap.size, 3, none⟩ = some (.int .u64 x) := b4.out.cell 3
  have o4 : w4.cell? ⟨w.heap.size, 4, none⟩ = some (.int .i64 n) := b4.out.cell 4
  have o5 : w4.cell? ⟨w.heap.size, 5, none⟩ = some vc := b4.out.cell 5
  have hob : Hid (¬ X w.heap.size) := Lib.hid fun hx => Nat.lt_irrefl _ (hXl.out _ hx)
  generalize w.heap.size = ob at *
  clear hXl
  clear V4 S4 b4
  have C1 := Lib.hid (p4.out.cutNo_b hn9.out.1 hn9.out.2.1 hn9.out.2.2)
  obtain ⟨Ax, cx, _, cx1, _, _, _, cxm⟩ := p4.out.slice
  go_wp2_with fail
  refine C1.out.mono ?_
  rintro _ w5 ⟨rfl, rfl⟩
  have hd := hn9.out
  have hcase : decide (n < 0) = true ∨ (decide (n < 0) = false ∧ decide (n > (l.length : Int)) = true) := by
    by_cases h0 : n < 0
    · exact .inl (decide_eq_true h0)
    · exact .inr ⟨decide_eq_false h0, decide_eq_true (by omega)⟩
  clear C1 hd o2 o3 o5 o0 hn9
  go_wp2_with fail
  rcases hcase with hd0 | ⟨hd0, hd1⟩
  all_goals
    refine wp_region_mixH (fun _ => True) [3, 1, 3, 3, 3, 1, 3, 3, 3, 1, 3, 3, 3] (List.range 13) (by kernel_rfl) (by kernel_rfl) (fun _ _ h => h) trivial ?_
    repeat ((first | refine wpMixH_pure rfl rfl (fun K hK => ?_) | refine wpMixH_loc rfl rfl (fun K hK => ?_) | refine wpMixH_any rfl rfl (fun K hK => ?_)); go_simp; refine hK _ _ ?_; clear hK K)
    refine wpMixH_nil (fun m1 => ?_)
    go_wp2_with fail
    refine num_b.mono ?_
    rintro _ u6 ⟨rfl, rfl⟩
    have PP := Lib.hid (p4.out.drewN (1 + m1))
    have FF : Hid (Fr X w X (w4.drewN (1 + m1))) := Lib.hid (((Fr.refl X w).beside f4.out fun _ h => h.elim).drewN (1 + m1))
    go_upto_region 29 with (fail)
    generalize w4.drewN (1 + m1) = W9 at *
    obtain ⟨At, ct, _, ct1, _, _, _, ctm⟩ := PP.out.slice
    have hlm := PP.out.hm
    have hll := PP.out.hl
    have hlli : (l.length : Int) ≤ 1048576 := by omega
    have T1 := Lib.hid (fun m => (PP.out.drewN m).len_b)
    have T2 := Lib.hid (fun m => (PP.out.drewN m).all_b)
    have hz9 := Lib.hid (show l.length ≤ 4611686018427387904 by omega)
    clear hlm hll
    refine wp_region_mixH (fun W => W.cell? ⟨q, 1, none⟩ = some (.slice At l.length ct)) [3, 2, 3, 3, 3, 0, 3, 3, 3, 3, 2, 3, 3, 3, 0, 2, 3, 3] [0, 2, 3, 4, 5, 6, 1, 7, 8, 9, 11, 12, 13, 14, 10, 15, 16, 17] (by kernel_rfl) (by kernel_rfl) (fun _ _ h => h) ct1 ?_
    repeat (first | ((first | refine wpMixH_pure rfl rfl (fun K hK => ?_) | refine wpMixH_loc rfl rfl (fun K hK => ?_) | refine wpMixH_any rfl rfl (fun K hK => ?_)); go_simp; refine hK _ _ ?_; clear hK K) | (refine wpMixH_any rfl rfl (fun K hK => ?_); rw [if_pos (by go_simp)]; apply Exists.intro; refine And.intro (fun w2 hS2 => ?_) (hK _ _ ?_); (focus (obtain hs1 := hS2; go_simp; rfl)); clear hK K))
    refine wpMixH_loud rfl rfl (fun m1 K hK => ?_)
    go_wp2_with fail
    refine (T1.out _).mono ?_
    rintro _ w7 ⟨rfl, rfl⟩
    go_wp2_with fail
    refine hK _ _ (fun _ => ct1) ?_; clear hK K
    repeat (first | ((first | refine wpMixH_pure rfl rfl (fun K hK => ?_) | refine wpMixH_loc rfl rfl (fun K hK => ?_) | refine wpMixH_any rfl rfl (fun K hK => ?_)); go_simp; refine hK _ _ ?_; clear hK K) | (refine wpMixH_any rfl rfl (fun K hK => ?_); rw [if_pos (by go_simp)]; apply Exists.intro; refine And.intro (fun w2 hS2 => ?_) (hK _ _ ?_); (focus (obtain hs1 := hS2; go_simp; rfl)); clear hK K))
    refine wpMixH_loud rfl rfl (fun m2 K hK => ?_)
    go_wp2_with fail
    refine (T2.out _).mono ?_
    rintro _ w8 ⟨b8, rfl, S8, p8, m8⟩
    obtain ⟨Au, cu, hLu, cu1, _⟩ := p8.slice
    have T3 := Lib.hid (fun m => walk_b (n := 0) S8 (below_drewNs (Below.refl _ w8) m) (Sl.drewN hLu m |> Cl.lies) hz9.out)
    have ct8 := m8.keep_cell (p := ⟨q, 1, none⟩) ct1
    obtain ⟨rfl, rfl⟩ : At = Au ∧ ct = cu := by
      rw [cu1] at ct8
      simp only [Option.some.injEq, Value.slice.injEq] at ct8
      exact ⟨ct8.1.symm, ct8.2.2.symm⟩
    replace p8 := Lib.hid p8
    replace m8 := Lib.hid m8
    clear T1 T2 S8 hLu ct8 ct1
    go_wp2_with fail
    refine hK _ _ (fun _ => cu1) ?_; clear hK K
    repeat (first | ((first | refine wpMixH_pure rfl rfl (fun K hK => ?_) | refine wpMixH_loc rfl rfl (fun K hK => ?_) | refine wpMixH_any rfl rfl (fun K hK => ?_)); go_simp; refine hK _ _ ?_; clear hK K) | (refine wpMixH_any rfl rfl (fun K hK => ?_); rw [if_pos (by go_simp)]; apply Exists.intro; refine And.intro (fun w2 hS2 => ?_) (hK _ _ ?_); (focus (obtain hs1 := hS2; go_simp; rfl)); clear hK K))
    refine wpMixH_loud rfl rfl (fun m3 K hK => ?_)
    go_wp2_with fail
    refine (T3.out _).mono ?_
    rintro _ w9 ⟨rfl, m9⟩
    replace m9 := Lib.hid m9
    clear T3 cu1
    go_wp2_with fail
    refine hK _ _ (fun h => (Bool.false_ne_true ((Eq.symm (by kernel_rfl)).trans h)).elim) ?_; clear hK K
    repeat ((first | refine wpMixH_pure rfl rfl (fun K hK => ?_) | refine wpMixH_loc rfl rfl (fun K hK => ?_) | refine wpMixH_any rfl rfl (fun K hK => ?_)); go_simp; refine hK _ _ ?_; clear hK K)
    refine wpMixH_nil (fun m4 => ?_)
    go_wp2
    go_ret
    have q9 : PD (w9.drewN m4) X r q most l := ((p8.out.drewN m3).new_ m9.out).drewN m4
    have g8 : Fr (fun _ => False) W9 (fun _ => False) w8 := ⟨m8.out.os, m8.out.tape, m8.out.output, m8.out.size, m8.out.block, m8.out.new⟩
    have g9 : Fr (fun _ => False) w8 (fun _ => False) w9 := ⟨m9.out.os, m9.out.tape, m9.out.output, m9.out.size, m9.out.block, m9.out.new⟩
    exact ⟨rfl, _, _, q9, ((FF.out.beside g8 fun _ h => h.elim).beside g9 fun _ h => h.elim).drewN m4⟩
end Go.Proofs.YtfhpnlaabgkpjaaDoor
/- reads, by contract: Stale. -/
namespace Go.Proofs.YtfhpnlaabgkpjaaDoor
open Go.RowKit Go.Shelf
set_option maxHeartbeats 8000000
set_option linter.unusedVariables false
set_option linter.unusedSimpArgs false

set_option maxRecDepth 100000 in
theorem reads_3 {w : World} {X : Nat → Prop} {r q most : Nat} {l : List (Int × Int)} {on a x n : Int} {vc : Value} {cs : List Int} (hv : Lies w vc cs) (hc : (cs.length + 3) * 8 ≤ 140737488355328) (h : PD w X r q most l) :
    Calls Tryd.prog 12 #[.pointer (some ⟨r, 0, none⟩), .pointer (some ⟨q, 0, none⟩), .agg #[.int .i64 3, .int .i64 on, .int .u64 a, .int .u64 x, .int .i64 n, vc]] w fun e w' => e = .returned (.bool true) ∧ ∃ X' l', PD w' X' r q most l' ∧ Fr X w X' w' := by
  have hv9 := Lib.hid hv
  have hc9 := Lib.hid hc
  clear hv hc
  obtain ⟨Aq, cq, hLq, c1, _⟩ := h.slice
  have hmx : Tryd.prog.follows .mixedOrders = true := by kernel_rfl
  have hXl := Lib.hid h.lt
  have hlm := h.hm
  have hll := h.hl
  have hz1 := Lib.hid (show 0 + l.length ≤ 9223372036854775807 by omega)
  have hz2 := Lib.hid (show (0 + l.length) * 16 ≤ 140737488355328 by omega)
  obtain ⟨W0, hW0⟩ : ∃ u, Hid (u = w.alloc (.cells #[.int .i64 3, .int .i64 on, .int .u64 a, .int .u64 x, .int .i64 n, vc] 41)) := ⟨_, Lib.hid rfl⟩
  have b0 : Hid (Blk W0 w.heap.size 41 #[.int .i64 3, .int .i64 on, .int .u64 a, .int .u64 x, .int .i64 n, vc]) := Lib.hid (by rw [hW0.out]; exact Blk.new _ _ _)
  have f0 : Hid (Fr (fun _ => False) w (fun _ => False) W0) := Lib.hid (by rw [hW0.out]; exact (Fr.refl _ w).alloc _)
  have p0 := Lib.hid (h.new_ f0.out)
  have c1 := f0.out.keep_cell c1
  have L0 := Lib.hid (Sl.fr hLq f0.out fun _ _ h => h)
  have L1 : Hid (Cl (W0.alloc (.cells #[] 55)) (.slice Aq l.length cq) l) := Lib.hid (Sl.alloc L0.out _)
  have N1 : Hid (Cl (W0.alloc (.cells #[] 55)) (.slice (some ⟨W0.heap.size, 0, none⟩) 0 0) []) := Lib.hid (Sl.new encC_len W0 [] (by simp))
  have c1 := cell_alloc_ (o := .cells #[] 55) c1
  clear hLq h hlm hll L0
  go_enter Tryd.func12, Tryd.ntmps12
  go_upto_region 1 with (fail)
  rw [← hW0.out]
  go_wp2_with (at_builtin; refine wpList_cells (W0.alloc (.cells #[] 55)) rfl (.tmp 18) (.tmp 22) rfl (.slice (some ⟨W0.heap.size, 0, none⟩) 0 0) (.slice Aq l.length cq) [] l rfl N1.out rfl L1.out hz1.out hz2.out ?_; intro A3 cp3 w3 hc3 hv3 hm3; have V3 := Lib.hid hv3; have M3 := Lib.hid hm3; clear hv3 hm3)
  have f3 : Hid (Fr (fun _ => False) W0 (fun _ => False) w3) := Lib.hid (((((Fr.refl (fun _ => False) W0).alloc (.cells #[] 55)).into (G := own (.slice (some ⟨W0.heap.size, 0, none⟩) 0 0)) (fun k hk => .inr (.inr (Nat.le_of_eq (by simpa [own, Value.ownBlock] using hk))))).trans M3.out).into fun _ h => h.elim)
  have p3 := Lib.hid (p0.out.new_ f3.out)
  have b3 := Lib.hid (f3.out.blk b0.out fun h => h)
  have f3w := Lib.hid (f0.out.trans f3.out)
  clear M3 N1 L1 c1 hW0 f0 f3 b0 p0
  refine p3.out.all_b.mono ?_
  rintro _ w4 ⟨b, rfl, S4, p4, m4⟩
  have V4 : Hid (Cl w4 (.slice A3 (([] : List (Int × Int)).length + l.length) cp3) ([] ++ l)) := Lib.hid (Sl.fr V3.out m4 fun _ _ h => h)
  replace S4 := Lib.hid S4
  replace p4 := Lib.hid p4
  have b4 := Lib.hid (m4.blk b3.out fun h => h)
  have f4 := Lib.hid (f3w.out.trans m4)
  clear V3 p3 b3 f3w m4
  have o0 : w4.cell? ⟨w.heap.size, 0, none⟩ = some (.int .i64 3) := b4.out.cell 0
  have o2 : w4.cell? ⟨w.heap.size, 2, none⟩ = some (.int .u64 a) := b4.out.cell 2
  have o3 : w4.cell? ⟨w.heap.size, 3, none⟩ = some (.int .u64 x) := b4.out.cell 3
  have o4 : w4.cell? ⟨w.heap.size, 4, none⟩ = some (.int .i64 n) := b4.out.cell 4
  have o5 : w4.cell? ⟨w.heap.size, 5, none⟩ = some vc := b4.out.cell 5
  have hob : Hid (¬ X w.heap.size) := Lib.hid fun hx => Nat.lt_irrefl _ (hXl.out _ hx)
  generalize w.heap.size = ob at *
  clear hXl
  clear V4 S4 b4
  have hv4 := Lib.hid (hv9.out.frz f4.out)
  clear hv9
  go_wp2_with fail
  refine (lend_b hv4.out hc9.out).mono ?_
  rintro _ w5 ⟨u, rfl, Lu, hb5, hu5⟩
  have f5 := Fr.of_below hb5 (Nat.le_refl _) (fun _ => False)
  replace Lu := Lib.hid Lu
  have p5 := Lib.hid (p4.out.new_ f5)
  have o55 := f5.keep_cell o5
  have f5w := Lib.hid (f4.out.trans f5)
  have hv5 := Lib.hid (hv4.out.frz f5)
  obtain ⟨Au, cu, rfl, hcu⟩ := Lu.out.wl.shape
  replace hcu := Lib.hid hcu
  clear hb5 hu5 f5 f4 p4 hv4 o5 o0 o2 o3 o4
  go_wp2_with fail
  refine (p5.out.stale1_b Lu.out.wl.lies (by have := hc9.out; omega)).mono ?_
  rintro _ w6 ⟨rfl, f6⟩
  have p6 := Lib.hid (p5.out.new_ f6)
  have o56 := f6.keep_cell o55
  have f6w := Lib.hid (f5w.out.trans f6)
  have hv6 := Lib.hid (hv5.out.frz f6)
  have Lu6 := Lib.hid (Lu.out.frz f6)
  clear f6 f5w p5 hv5 Lu o55
  obtain ⟨⟨si, sb⟩, hst⟩ : ∃ u, Hid (stale cs l = u) := ⟨_, Lib.hid rfl⟩
  rw [hst.out]
  have C6 := Lib.hid (p6.out.stale2_b hv6.out (by have := hc9.out; omega))
  rw [hst.out] at C6
  go_wp2_with fail
  refine C6.out.mono ?_
  rintro _ w7 ⟨rfl, n7, rfl⟩
  clear C6
  go_wp2_with fail
  refine (kept_b (Lu6.out.drewN _) (hv6.out.drewN _) hc9.out).mono ?_
  rintro _ w7 ⟨⟨n8, rfl⟩, rfl⟩
  have PP := Lib.hid (p6.out.drewN (n7 + n8))
  have FF : Hid (Fr X w X (w6.drewN (n7 + n8))) := Lib.hid (((Fr.refl X w).beside f6w.out fun _ h => h.elim).drewN (n7 + n8))
  clear p6 f6w hv6 Lu6
  go_upto_region 29 with (fail)
  generalize w6.drewN (n7 + n8) = W9 at *
  obtain ⟨At, ct, _, ct1, _, _, _, ctm⟩ := PP.out.slice
  have hlm := PP.out.hm
  have hll := PP.out.hl
  have hlli : (l.length : Int) ≤ 1048576 := by omega
  have T1 := Lib.hid (fun m => (PP.out.drewN m).len_b)
  have T2 := Lib.hid (fun m => (PP.out.drewN m).all_b)
  have hz9 := Lib.hid (show l.length ≤ 4611686018427387904 by omega)
  clear hlm hll
  refine wp_region_mixH (fun W => W.cell? ⟨q, 1, none⟩ = some (.slice At l.length ct)) [3, 2, 3, 3, 3, 0, 3, 3, 3, 3, 2, 3, 3, 3, 0, 2, 3, 3] [0, 2, 3, 4, 5, 6, 1, 7, 8, 9, 11, 12, 13, 14, 10, 15, 16, 17] (by kernel_rfl) (by kernel_rfl) (fun _ _ h => h) ct1 ?_
  repeat (first | ((first | refine wpMixH_pure rfl rfl (fun K hK => ?_) | refine wpMixH_loc rfl rfl (fun K hK => ?_) | refine wpMixH_any rfl rfl (fun K hK => ?_)); go_simp; refine hK _ _ ?_; clear hK K) | (refine wpMixH_any rfl rfl (fun K hK => ?_); rw [if_pos (by go_simp)]; apply Exists.intro; refine And.intro (fun w2 hS2 => ?_) (hK _ _ ?_); (focus (obtain hs1 := hS2; go_simp; rfl)); clear hK K))
  refine wpMixH_loud rfl rfl (fun m1 K hK => ?_)
  go_wp2_with fail
  refine (T1.out _).mono ?_
  rintro _ w7 ⟨rfl, rfl⟩
  go_wp2_with fail
  refine hK _ _ (fun _ => ct1) ?_; clear hK K
  repeat (first | ((first | refine wpMixH_pure rfl rfl (fun K hK => ?_) | refine wpMixH_loc rfl rfl (fun K hK => ?_) | refine wpMixH_any rfl rfl (fun K hK => ?_)); go_simp; refine hK _ _ ?_; clear hK K) | (refine wpMixH_any rfl rfl (fun K hK => ?_); rw [if_pos (by go_simp)]; apply Exists.intro; refine And.intro (fun w2 hS2 => ?_) (hK _ _ ?_); (focus (obtain hs1 := hS2; go_simp; rfl)); clear hK K))
  refine wpMixH_loud rfl rfl (fun m2 K hK => ?_)
  go_wp2_with fail
  refine (T2.out _).mono ?_
  rintro _ w8 ⟨b8, rfl, S8, p8, m8⟩
  obtain ⟨Au, cu, hLu, cu1, _⟩ := p8.slice
  have T3 := Lib.hid (fun m => walk_b (n := 0) S8 (below_drewNs (Below.refl _ w8) m) (Sl.drewN hLu m |> Cl.lies) hz9.out)
  have ct8 := m8.keep_cell (p := ⟨q, 1, none⟩) ct1
  obtain ⟨rfl, rfl⟩ : At = Au ∧ ct = cu := by
    rw [cu1] at ct8
    simp only [Option.some.injEq, Value.slice.injEq] at ct8
    exact ⟨ct8.1.symm, ct8.2.2.symm⟩
  replace p8 := Lib.hid p8
  replace m8 := Lib.hid m8
  clear T1 T2 S8 hLu ct8 ct1
  go_wp2_with fail
  refine hK _ _ (fun _ => cu1) ?_; clear hK K
  repeat (first | ((first | refine wpMixH_pure rfl rfl (fun K hK => ?_) | refine wpMixH_loc rfl rfl (fun K hK => ?_) | refine wpMixH_any rfl rfl (fun K hK => ?_)); go_simp; refine hK _ _ ?_; clear hK K) | (refine wpMixH_any rfl rfl (fun K hK => ?_); rw [if_pos (by go_simp)]; apply Exists.intro; refine And.intro (fun w2 hS2 => ?_) (hK _ _ ?_); (focus (obtain hs1 := hS2; go_simp; rfl)); clear hK K))
  refine wpMixH_loud rfl rfl (fun m3 K hK => ?_)
  go_wp2_with fail
  refine (T3.out _).mono ?_
  rintro _ w9 ⟨rfl, m9⟩
  replace m9 := Lib.hid m9
  clear T3 cu1
  go_wp2_with fail
  refine hK _ _ (fun h => (Bool.false_ne_true ((Eq.symm (by kernel_rfl)).trans h)).elim) ?_; clear hK K
  repeat ((first | refine wpMixH_pure rfl rfl (fun K hK => ?_) | refine wpMixH_loc rfl rfl (fun K hK => ?_) | refine wpMixH_any rfl rfl (fun K hK => ?_)); go_simp; refine hK _ _ ?_; clear hK K)
  refine wpMixH_nil (fun m4 => ?_)
  go_wp2
  go_ret
  have q9 : PD (w9.drewN m4) X r q most l := ((p8.out.drewN m3).new_ m9.out).drewN m4
  have g8 : Fr (fun _ => False) W9 (fun _ => False) w8 := ⟨m8.out.os, m8.out.tape, m8.out.output, m8.out.size, m8.out.block, m8.out.new⟩
  have g9 : Fr (fun _ => False) w8 (fun _ => False) w9 := ⟨m9.out.os, m9.out.tape, m9.out.output, m9.out.size, m9.out.block, m9.out.new⟩
  exact ⟨rfl, _, _, q9, ((FF.out.beside g8 fun _ h => h.elim).beside g9 fun _ h => h.elim).drewN m4⟩
end Go.Proofs.YtfhpnlaabgkpjaaDoor
/- reads, by contract: At. -/
namespace Go.Proofs.YtfhpnlaabgkpjaaDoor
open Go.RowKit Go.Shelf
set_option maxHeartbeats 8000000
set_option linter.unusedVariables false
set_option linter.unusedSimpArgs false

set_option maxRecDepth 100000 in
theorem reads_4 {w : World} {X : Nat → Prop} {r q most : Nat} {l : List (Int × Int)} {on a x n : Int} {vc : Value} (hn : ∃ nn : Nat, n = (nn : Int) ∧ nn < l.length) (h : PD w X r q most l) :
    Calls Tryd.prog 12 #[.pointer (some ⟨r, 0, none⟩), .pointer (some ⟨q, 0, none⟩), .agg #[.int .i64 4, .int .i64 on, .int .u64 a, .int .u64 x, .int .i64 n, vc]] w fun e w' => e = .returned (.bool true) ∧ ∃ X' l', PD w' X' r q most l' ∧ Fr X w X' w' := by
  obtain ⟨nn, hn0, hnn⟩ := hn
  replace hn0 := hn0.symm
  subst hn0
  have hnn9 := Lib.hid hnn
  clear hnn
  obtain ⟨Aq, cq, hLq, c1, _⟩ := h.slice
  have hmx : Tryd.prog.follows .mixedOrders = true := by kernel_rfl
  have hXl := Lib.hid h.lt
  have hlm := h.hm
  have hll := h.hl
  have hz1 := Lib.hid (show 0 + l.length ≤ 9223372036854775807 by omega)
  have hz2 := Lib.hid (show (0 + l.length) * 16 ≤ 140737488355328 by omega)
  obtain ⟨W0, hW0⟩ : ∃ u, Hid (u = w.alloc (.cells #[.int .i64 4, .int .i64 on, .int .u64 a, .int .u64 x, .int .i64 (nn : Int), vc] 41)) := ⟨_, Lib.hid rfl⟩
  have b0 : Hid (Blk W0 w.heap.size 41 #[.int .i64 4, .int .i64 on, .int .u64 a, .int .u64 x, .int .i64 (nn : Int), vc]) := Lib.hid (by rw [hW0.out]; exact Blk.new _ _ _)
  have f0 : Hid (Fr (fun _ => False) w (fun _ => False) W0) := Lib.hid (by rw [hW0.out]; exact (Fr.refl _ w).alloc _)
  have p0 := Lib.hid (h.new_ f0.out)
  have c1 := f0.out.keep_cell c1
  have L0 := Lib.hid (Sl.fr hLq f0.out fun _ _ h => h)
  have L1 : Hid (Cl (W0.alloc (.cells #[] 55)) (.slice Aq l.length cq) l) := Lib.hid (Sl.alloc L0.out _)
  have N1 : Hid (Cl (W0.alloc (.cells #[] 55)) (.slice (some ⟨W0.heap.size, 0, none⟩) 0 0) []) := Lib.hid (Sl.new encC_len W0 [] (by simp))
  have c1 := cell_alloc_ (o := .cells #[] 55) c1
  clear hLq h hlm hll L0
  go_enter Tryd.func12, Tryd.ntmps12
  go_upto_region 1 with (fail)
  rw [← hW0.out]
  go_wp2_with (at_builtin; refine wpList_cells (W0.alloc (.cells #[] 55)) rfl (.tmp 18) (.tmp 22) rfl (.slice (some ⟨W0.heap.size, 0, none⟩) 0 0) (.slice Aq l.length cq) [] l rfl N1.out rfl L1.out hz1.out hz2.out ?_; intro A3 cp3 w3 hc3 hv3 hm3; have V3 := Lib.hid hv3; have M3 := Lib.hid hm3; clear hv3 hm3)
  have f3 : Hid (Fr (fun _ => False) W0 (fun _ => False) w3) := Lib.hid (((((Fr.refl (fun _ => False) W0).alloc (.cells #[] 55)).into (G := own (.slice (some ⟨W0.heap.size, 0, none⟩) 0 0)) (fun k hk => .inr (.inr (Nat.le_of_eq (by simpa [own, Value.ownBlock] using hk))))).trans M3.out).into fun _ h => h.elim)
  have p3 := Lib.hid (p0.out.new_ f3.out)
  have b3 := Lib.hid (f3.out.blk b0.out fun h => h)
  have f3w := Lib.hid (f0.out.trans f3.out)
  clear M3 N1 L1 c1 hW0 f0 f3 b0 p0
  refine p3.out.all_b.mono ?_
  rintro _ w4 ⟨b, rfl, S4, p4, m4⟩
  have V4 : Hid (Cl w4 (.slice A3 (([] : List (Int × Int)).length + l.length) cp3) ([] ++ l)) := Lib.hid (Sl.fr V3.out m4 fun _ _ h => h)
  replace S4 := Lib.hid S4
  replace p4 := Lib.hid p4
  have b4 := Lib.hid (m4.blk b3.out fun h => h)
  have f4 := Lib.hid (f3w.out.trans m4)
  clear V3 p3 b3 f3w m4
  have o0 : w4.cell? ⟨w.heap.size, 0, none⟩ = some (.int .i64 4) := b4.out.cell 0
  have o2 : w4.cell? ⟨w.heap.size, 2, none⟩ = some (.int .u64 a) := b4.out.cell 2
  have o3 : w4.cell? ⟨w.heap.size, 3, none⟩ = some (.int .u64 x) := b4.out.cell 3
  have o4 : w4.cell? ⟨w.heap.size, 4, none⟩ = some (.int .i64 (nn : Int)) := b4.out.cell 4
  have o5 : w4.cell? ⟨w.heap.size, 5, none⟩ = some vc := b4.out.cell 5
  have hob : Hid (¬ X w.heap.size) := Lib.hid fun hx => Nat.lt_irrefl _ (hXl.out _ hx)
  generalize w.heap.size = ob at *
  clear hXl
  clear V4 S4 b4
  have C1 := Lib.hid (p4.out.atYes_b hnn9.out)
  go_wp2_with fail
  refine C1.out.mono ?_
  rintro _ w5 ⟨rfl, f5⟩
  clear C1
  obtain ⟨va, hva⟩ : ∃ u, Hid ((l[nn]'hnn9.out).1 = u) := ⟨_, Lib.hid rfl⟩
  obtain ⟨vw, hvw⟩ : ∃ u, Hid ((l[nn]'hnn9.out).2 = u) := ⟨_, Lib.hid rfl⟩
  rw [hva.out, hvw.out]
  obtain ⟨w6, hw6⟩ : ∃ u, Hid (u = w5.alloc (.cells #[.int .u64 va, .int .u64 vw] 55)) := ⟨_, Lib.hid rfl⟩
  have f6 : Hid (Fr (fun _ => False) w4 (fun _ => False) w6) := Lib.hid (by rw [hw6.out]; exact f5.alloc _)
  have p6 := Lib.hid (p4.out.new_ f6.out)
  have o46 := f6.out.keep_cell o4
  have b6 : Hid (Blk w6 w5.heap.size 55 #[.int .u64 va, .int .u64 vw]) := Lib.hid (by rw [hw6.out]; exact Blk.new _ _ _)
  have v0 : w6.cell? ⟨w5.heap.size, 0, none⟩ = some (.int .u64 va) := b6.out.cell 0
  have v1 : w6.cell? ⟨w5.heap.size, 1, none⟩ = some (.int .u64 vw) := b6.out.cell 1
  obtain ⟨Ax, cx, hLx, cx1, _, _, _, cxm⟩ := p6.out.slice
  have cne := fun w => cell_neq va vw va vw w
  simp only [decide_true, Bool.and_self, Bool.not_true] at cne
  have hml := p6.out.hm
  have hll := p6.out.hl
  have hlli : (l.length : Int) ≤ 1048576 := by omega
  clear f5 p4 o0 o2 o3 o4 o5 b6 hml hll
  obtain ⟨A', cp', eA, _, _, hcl⟩ := Cl.lies hLx
  injection eA with e1 e2 e3
  subst e1 e3
  obtain ⟨g, o, rfl, hg, d0, d1⟩ := hcl nn hnn9.out
  rw [hva.out] at d0
  rw [hvw.out] at d1
  have hnl : (nn : Int) < (l.length : Int) := by have := hnn9.out; omega
  have hn0 : decide ((nn : Int) ≥ 0) = true := decide_eq_true (by omega)
  have hn1 : decide (nn < l.length) = true := decide_eq_true hnn9.out
  clear hcl hg e2 hLx
  go_upto_region 23 with (fail)
  rw [← hw6.out]
  refine wp_region_mixH (fun _ => True) [3, 1, 3, 3, 3, 1, 3, 3, 3, 1, 3, 3, 3, 3] (List.range 14) (by kernel_rfl) (by kernel_rfl) (fun _ _ h => h) trivial ?_
  repeat ((first | refine wpMixH_pure rfl rfl (fun K hK => ?_) | refine wpMixH_loc rfl rfl (fun K hK => ?_) | refine wpMixH_any rfl rfl (fun K hK => ?_)); go_simp; refine hK _ _ ?_; clear hK K)
  refine wpMixH_nil (fun m1 => ?_)
  go_wp2_with fail
  refine wp_region_mixH (fun W => W.cell? ⟨w5.heap.size, 0, none⟩ = some (.int .u64 va) ∧ W.cell? ⟨w5.heap.size, 1, none⟩ = some (.int .u64 vw)) [3, 3, 3, 3, 3, 3, 1, 3, 3, 3, 1, 3, 1, 3, 1, 3, 3, 3, 3, 3, 3, 3, 0, 2, 3, 3, 3] (List.range 27) (by kernel_rfl) (by kernel_rfl) (fun _ _ h => h) ⟨v0, v1⟩ ?_
  repeat (first | ((first | refine wpMixH_pure rfl rfl (fun K hK => ?_) | refine wpMixH_loc rfl rfl (fun K hK => ?_) | refine wpMixH_any rfl rfl (fun K hK => ?_)); go_simp; refine hK _ _ ?_; clear hK K) | (refine wpMixH_any rfl rfl (fun K hK => ?_); rw [if_pos (by go_simp)]; apply Exists.intro; refine And.intro (fun w2 hS2 => ?_) (hK _ _ ?_); (focus (obtain ⟨hs1, hs2⟩ := hS2; go_simp; rfl)); clear hK K))
  refine wpMixH_loud rfl rfl (fun m2 K hK => ?_)
  go_wp2_with fail
  refine hK _ _ (fun _ => ⟨v0, v1⟩) ?_; clear hK K
  repeat (first | ((first | refine wpMixH_pure rfl rfl (fun K hK => ?_) | refine wpMixH_loc rfl rfl (fun K hK => ?_) | refine wpMixH_any rfl rfl (fun K hK => ?_)); go_simp; refine hK _ _ ?_; clear hK K) | (refine wpMixH_any rfl rfl (fun K hK => ?_); rw [if_pos (by go_simp)]; apply Exists.intro; refine And.intro (fun w2 hS2 => ?_) (hK _ _ ?_); (focus (obtain ⟨hs1, hs2⟩ := hS2; go_simp; rfl)); clear hK K))
  refine wpMixH_nil (fun m3 => ?_)
  go_upto_region 29 with (fail)
  rw [drewN_drewN]
  have PP := Lib.hid (p6.out.drewN (1 + m1 + 1 + m2 + m3))
  have FF : Hid (Fr X w X (w6.drewN (1 + m1 + 1 + m2 + m3))) := Lib.hid (((Fr.refl X w).beside (f4.out.trans f6.out) fun _ h => h.elim).drewN (1 + m1 + 1 + m2 + m3))
  clear p6 f6 f4 v0 v1 cx1 o46
  generalize w6.drewN (1 + m1 + 1 + m2 + m3) = W9 at *
  obtain ⟨At, ct, _, ct1, _, _, _, ctm⟩ := PP.out.slice
  have hlm := PP.out.hm
  have hll := PP.out.hl
  have hlli : (l.length : Int) ≤ 1048576 := by omega
  have T1 := Lib.hid (fun m => (PP.out.drewN m).len_b)
  have T2 := Lib.hid (fun m => (PP.out.drewN m).all_b)
  have hz9 := Lib.hid (show l.length ≤ 4611686018427387904 by omega)
  clear hlm hll
  refine wp_region_mixH (fun W => W.cell? ⟨q, 1, none⟩ = some (.slice At l.length ct)) [3, 2, 3, 3, 3, 0, 3, 3, 3, 3, 2, 3, 3, 3, 0, 2, 3, 3] [0, 2, 3, 4, 5, 6, 1, 7, 8, 9, 11, 12, 13, 14, 10, 15, 16, 17] (by kernel_rfl) (by kernel_rfl) (fun _ _ h => h) ct1 ?_
  repeat (first | ((first | refine wpMixH_pure rfl rfl (fun K hK => ?_) | refine wpMixH_loc rfl rfl (fun K hK => ?_) | refine wpMixH_any rfl rfl (fun K hK => ?_)); go_simp; refine hK _ _ ?_; clear hK K) | (refine wpMixH_any rfl rfl (fun K hK => ?_); rw [if_pos (by go_simp)]; apply Exists.intro; refine And.intro (fun w2 hS2 => ?_) (hK _ _ ?_); (focus (obtain hs1 := hS2; go_simp; rfl)); clear hK K))
  refine wpMixH_loud rfl rfl (fun m1 K hK => ?_)
  go_wp2_with fail
  refine (T1.out _).mono ?_
  rintro _ w7 ⟨rfl, rfl⟩
  go_wp2_with fail
  refine hK _ _ (fun _ => ct1) ?_; clear hK K
  repeat (first | ((first | refine wpMixH_pure rfl rfl (fun K hK => ?_) | refine wpMixH_loc rfl rfl (fun K hK => ?_) | refine wpMixH_any rfl rfl (fun K hK => ?_)); go_simp; refine hK _ _ ?_; clear hK K) | (refine wpMixH_any rfl rfl (fun K hK => ?_); rw [if_pos (by go_simp)]; apply Exists.intro; refine And.intro (fun w2 hS2 => ?_) (hK _ _ ?_); (focus (obtain hs1 := hS2; go_simp; rfl)); clear hK K))
  refine wpMixH_loud rfl rfl (fun m2 K hK => ?_)
  go_wp2_with fail
  refine (T2.out _).mono ?_
  rintro _ w8 ⟨b8, rfl, S8, p8, m8⟩
  obtain ⟨Au, cu, hLu, cu1, _⟩ := p8.slice
  have T3 := Lib.hid (fun m => walk_b (n := 0) S8 (below_drewNs (Below.refl _ w8) m) (Sl.drewN hLu m |> Cl.lies) hz9.out)
  have ct8 := m8.keep_cell (p := ⟨q, 1, none⟩) ct1
  obtain ⟨rfl, rfl⟩ : At = Au ∧ ct = cu := by
    rw [cu1] at ct8
    simp only [Option.some.injEq, Value.slice.injEq] at ct8
    exact ⟨ct8.1.symm, ct8.2.2.symm⟩
  replace p8 := Lib.hid p8
  replace m8 := Lib.hid m8
  clear T1 T2 S8 hLu ct8 ct1
  go_wp2_with fail
  refine hK _ _ (fun _ => cu1) ?_; clear hK K
  repeat (first | ((first | refine wpMixH_pure rfl rfl (fun K hK => ?_) | refine wpMixH_loc rfl rfl (fun K hK => ?_) | refine wpMixH_any rfl rfl (fun K hK => ?_)); go_simp; refine hK _ _ ?_; clear hK K) | (refine wpMixH_any rfl rfl (fun K hK => ?_); rw [if_pos (by go_simp)]; apply Exists.intro; refine And.intro (fun w2 hS2 => ?_) (hK _ _ ?_); (focus (obtain hs1 := hS2; go_simp; rfl)); clear hK K))
  refine wpMixH_loud rfl rfl (fun m3 K hK => ?_)
  go_wp2_with fail
  refine (T3.out _).mono ?_
  rintro _ w9 ⟨rfl, m9⟩
  replace m9 := Lib.hid m9
  clear T3 cu1
  go_wp2_with fail
  refine hK _ _ (fun h => (Bool.false_ne_true ((Eq.symm (by kernel_rfl)).trans h)).elim) ?_; clear hK K
  repeat ((first | refine wpMixH_pure rfl rfl (fun K hK => ?_) | refine wpMixH_loc rfl rfl (fun K hK => ?_) | refine wpMixH_any rfl rfl (fun K hK => ?_)); go_simp; refine hK _ _ ?_; clear hK K)
  refine wpMixH_nil (fun m4 => ?_)
  go_wp2
  go_ret
  have q9 : PD (w9.drewN m4) X r q most l := ((p8.out.drewN m3).new_ m9.out).drewN m4
  have g8 : Fr (fun _ => False) W9 (fun _ => False) w8 := ⟨m8.out.os, m8.out.tape, m8.out.output, m8.out.size, m8.out.block, m8.out.new⟩
  have g9 : Fr (fun _ => False) w8 (fun _ => False) w9 := ⟨m9.out.os, m9.out.tape, m9.out.output, m9.out.size, m9.out.block, m9.out.new⟩
  exact ⟨rfl, _, _, q9, ((FF.out.beside g8 fun _ h => h.elim).beside g9 fun _ h => h.elim).drewN m4⟩
end Go.Proofs.YtfhpnlaabgkpjaaDoor
