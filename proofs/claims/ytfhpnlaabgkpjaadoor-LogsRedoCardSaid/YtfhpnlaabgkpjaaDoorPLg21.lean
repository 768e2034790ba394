/- redo, by contract: Put. -/
import Derived.Deep.DeepCutAuto
import Derived.Test.YtfhpnlaabgkpjaaDoorPLg20
namespace Go.Proofs.YtfhpnlaabgkpjaaDoor
open Go.RowKit Go.Shelf
set_option maxHeartbeats 8000000
set_option linter.unusedVariables false
set_option linter.unusedSimpArgs false

set_option maxRecDepth 100000 in
theorem redo_1 {w : World} {X : Nat → Prop} {r q most : Nat} {l : List (Int × Int)} {on a x n : Int} {vc : Value} (ha : 0 ≤ a ∧ a ≤ 18446744073709551615) (h : RP w X r q most l) (hz : (l.length + 2) * 24 ≤ 140737488355328) :
    Calls Tryd.prog 29 #[.pointer (some ⟨r, 0, none⟩), .pointer (some ⟨q, 0, none⟩), .agg #[.int .i64 1, .int .i64 on, .int .u64 a, .int .u64 x, .int .i64 n, vc]] w fun e w' => e = .returned (.bool true) ∧ ∃ X' l', RP w' X' r q most l' ∧ Fr X w X' w' ∧ l'.length ≤ l.length + 1 := by
  replace ha := Lib.hid ha
  have hmx : Tryd.prog.follows .mixedOrders = true := by kernel_rfl
  have hXl := Lib.hid h.lt
  have hlm := h.hm
  have hll := h.hr
  have hlz := h.hz
  have hli : (l.length : Int) ≤ 9223372036854775807 := by omega
  have hri : ((redo l).length : Int) ≤ 1048576 := by omega
  obtain ⟨W0, hW0⟩ : ∃ u, Hid (u = w.alloc (.cells #[.int .i64 1, .int .i64 on, .int .u64 a, .int .u64 x, .int .i64 n, vc] 41)) := ⟨_, Lib.hid rfl⟩
  have b0 : Hid (Blk W0 w.heap.size 41 #[.int .i64 1, .int .i64 on, .int .u64 a, .int .u64 x, .int .i64 n, vc]) := Lib.hid (by rw [hW0.out]; exact Blk.new _ _ _)
  have f0 : Hid (Fr (fun _ => False) w (fun _ => False) W0) := Lib.hid (by rw [hW0.out]; exact (Fr.refl _ w).alloc _)
  have p0 := Lib.hid (h.new_ f0.out)
  have R0 := Lib.hid p0.out.redo_b
  have hz9 := Lib.hid hz
  clear h hlm hll hlz hz
  go_enter Tryd.func29, Tryd.ntmps29
  go_upto_region 1 with (fail)
  rw [← hW0.out]
  go_wp2_with fail
  refine R0.out.mono ?_
  rintro _ w4 ⟨A3, cp3, rfl, V4, p4, m4⟩
  replace V4 := Lib.hid V4
  replace p4 := Lib.hid p4
  have b4 := Lib.hid (m4.blk b0.out fun h => h)
  have f4 : Hid (Fr (fun _ => False) w (fun _ => False) w4) := Lib.hid (f0.out.trans (m4.into fun _ h => h.elim))
  clear R0 p0 b0 f0 m4 hW0
  have o0 : w4.cell? ⟨w.heap.size, 0, none⟩ = some (.int .i64 1) := b4.out.cell 0
  have o2 : w4.cell? ⟨w.heap.size, 2, none⟩ = some (.int .u64 a) := b4.out.cell 2
  have o3 : w4.cell? ⟨w.heap.size, 3, none⟩ = some (.int .u64 x) := b4.out.cell 3
  have o4 : w4.cell? ⟨w.heap.size, 4, none⟩ = some (.int .i64 n) := b4.out.cell 4
  have hob : Hid (¬ X w.heap.size) := Lib.hid fun hx => Nat.lt_irrefl _ (hXl.out _ hx)
  generalize w.heap.size = ob at *
  clear hXl b4
  clear V4
  obtain ⟨ee, hee⟩ : ∃ u : Int, Hid (pc most l a = u) := ⟨_, Lib.hid rfl⟩
  have C1 := Lib.hid (fun m => (p4.out.drewN m).put_b (a := a) (x := x) hz9.out ha.out)
  rw [hee.out] at C1
  go_wp2_with fail
  refine wp_region_mixH (fun W => W.cell? ⟨ob, 2, none⟩ = some (.int .u64 a) ∧ W.cell? ⟨ob, 3, none⟩ = some (.int .u64 x)) [3, 3, 1, 3, 1, 2, 2, 3, 3, 0, 3, 0, 2, 3] [0, 1, 2, 3, 4, 7, 8, 9, 10, 11, 5, 6, 12, 13] (by kernel_rfl) (by kernel_rfl) (fun _ _ h => h) ⟨o2, o3⟩ ?_
  repeat (first | ((first | refine wpMixH_pure rfl rfl (fun K hK => ?_) | refine wpMixH_loc rfl rfl (fun K hK => ?_) | refine wpMixH_any rfl rfl (fun K hK => ?_)); go_simp; refine hK _ _ ?_; clear hK K) | (refine wpMixH_any rfl rfl (fun K hK => ?_); rw [if_pos (by go_simp)]; apply Exists.intro; refine And.intro (fun w2 hS2 => ?_) (hK _ _ ?_); (focus (obtain ⟨hs1, hs2⟩ := hS2; go_simp; rfl)); clear hK K))
  refine wpMixH_loud rfl rfl (fun m1 K hK => ?_)
  go_wp2_with fail
  refine (C1.out _).mono ?_
  rintro _ w5 ⟨rfl, hk5, C2⟩
  replace C2 := Lib.hid C2
  have o25 : w5.cell? ⟨ob, 2, none⟩ = some (.int .u64 a) := hk5 _ _ o2 hob.out
  have o35 : w5.cell? ⟨ob, 3, none⟩ = some (.int .u64 x) := hk5 _ _ o3 hob.out
  clear C1 hk5 o2 o3
  go_wp2_with fail
  refine hK _ _ (fun _ => ⟨o25, o35⟩) ?_; clear hK K
  repeat (first | ((first | refine wpMixH_pure rfl rfl (fun K hK => ?_) | refine wpMixH_loc rfl rfl (fun K hK => ?_) | refine wpMixH_any rfl rfl (fun K hK => ?_)); go_simp; refine hK _ _ ?_; clear hK K) | (refine wpMixH_any rfl rfl (fun K hK => ?_); rw [if_pos (by go_simp)]; apply Exists.intro; refine And.intro (fun w2 hS2 => ?_) (hK _ _ ?_); (focus (obtain ⟨hs1, hs2⟩ := hS2; go_simp; rfl)); clear hK K))
  refine wpMixH_loud rfl rfl (fun m2 K hK => ?_)
  go_wp2_with fail
  refine num_b.mono ?_
  rintro _ u6 ⟨rfl, rfl⟩
  go_wp2_with fail
  refine hK _ _ (fun _ => ⟨o25, o35⟩) ?_; clear hK K
  repeat (first | ((first | refine wpMixH_pure rfl rfl (fun K hK => ?_) | refine wpMixH_loc rfl rfl (fun K hK => ?_) | refine wpMixH_any rfl rfl (fun K hK => ?_)); go_simp; refine hK _ _ ?_; clear hK K) | (refine wpMixH_any rfl rfl (fun K hK => ?_); rw [if_pos (by go_simp)]; apply Exists.intro; refine And.intro (fun w2 hS2 => ?_) (hK _ _ ?_); (focus (obtain ⟨hs1, hs2⟩ := hS2; go_simp; rfl)); clear hK K))
  refine wpMixH_loud rfl rfl (fun m3 K hK => ?_)
  go_wp2_with fail
  refine (C2.out _).mono ?_
  rintro _ w6 ⟨rfl, X6, l6, p6, f6, le6⟩
  replace p6 := Lib.hid p6
  replace f6 := Lib.hid f6
  have LE := Lib.hid le6
  clear C2 le6
  go_wp2_with fail
  refine hK _ _ (fun h => (Bool.false_ne_true ((Eq.symm (by kernel_rfl)).trans h)).elim) ?_; clear hK K
  repeat (first | ((first | refine wpMixH_pure rfl rfl (fun K hK => ?_) | refine wpMixH_loc rfl rfl (fun K hK => ?_) | refine wpMixH_any rfl rfl (fun K hK => ?_)); go_simp; refine hK _ _ ?_; clear hK K) | (refine wpMixH_any rfl rfl (fun K hK => ?_); rw [if_pos (by go_simp)]; apply Exists.intro; refine And.intro (fun w2 hS2 => ?_) (hK _ _ ?_); (focus (obtain ⟨hs1, hs2⟩ := hS2; go_simp; rfl)); clear hK K))
  refine wpMixH_nil (fun m4 => ?_)
  have PP := Lib.hid (p6.out.drewN m4)
  have FF : Hid (Fr X w X6 (w6.drewN m4)) := Lib.hid (((((Fr.refl X w).beside f4.out fun _ h => h.elim).drewN _).trans f6.out).drewN m4)
  clear p6 f6 f4 p4
  go_upto_region 28 with (fail)
  generalize w6.drewN m4 = W9 at *
  have R1 := Lib.hid PP.out.redo_b
  go_wp2_with fail
  refine R1.out.mono ?_
  rintro _ v6 ⟨A6, c6, rfl, V6, p6, f6⟩
  replace V6 := Lib.hid V6
  replace p6 := Lib.hid p6
  replace f6 := Lib.hid f6
  obtain ⟨At, ct, ct1, _⟩ := p6.out.slice
  have hlm := p6.out.hm
  have hll := p6.out.hr
  have hzz := p6.out.hz
  have hlli : ((redo l6).length : Int) ≤ 1048576 := by omega
  have hll9 : (l6.length : Int) ≤ 9223372036854775807 := by omega
  have T1 := Lib.hid (fun m => (p6.out.drewN m).len_b)
  have T4 := Lib.hid (fun m => (p6.out.drewN m).mark_b)
  have T2 := Lib.hid (fun m => (p6.out.drewN m).all_b)
  have hz8 := Lib.hid (show (redo l6).length ≤ 4611686018427387904 by omega)
  clear hlm hll hzz R1
  go_wp2_with fail
  refine wp_region_mixH (fun W => W.cell? ⟨q, 1, none⟩ = some (.slice At l6.length ct)) [3, 2, 3, 3, 3, 3, 3, 2, 3, 3, 3, 0, 3, 3, 3, 3, 3, 2, 3, 2, 3, 3] [0, 2, 3, 1, 4, 5, 6, 8, 9, 10, 11, 12, 7, 13, 14, 15, 16, 18, 17, 19, 20, 21] (by kernel_rfl) (by kernel_rfl) (fun _ _ h => h) ct1 ?_
  repeat (first | ((first | refine wpMixH_pure rfl rfl (fun K hK => ?_) | refine wpMixH_loc rfl rfl (fun K hK => ?_) | refine wpMixH_any rfl rfl (fun K hK => ?_)); go_simp; refine hK _ _ ?_; clear hK K) | (refine wpMixH_any rfl rfl (fun K hK => ?_); rw [if_pos (by go_simp)]; apply Exists.intro; refine And.intro (fun w2 hS2 => ?_) (hK _ _ ?_); (focus (obtain hs1 := hS2; go_simp; rfl)); clear hK K))
  refine wpMixH_loud rfl rfl (fun m1 K hK => ?_)
  go_wp2_with fail
  refine (T1.out _).mono ?_
  rintro _ _ ⟨rfl, rfl⟩
  go_wp2_with fail
  refine hK _ _ (fun _ => ct1) ?_; clear hK K
  repeat (first | ((first | refine wpMixH_pure rfl rfl (fun K hK => ?_) | refine wpMixH_loc rfl rfl (fun K hK => ?_) | refine wpMixH_any rfl rfl (fun K hK => ?_)); go_simp; refine hK _ _ ?_; clear hK K) | (refine wpMixH_any rfl rfl (fun K hK => ?_); rw [if_pos (by go_simp)]; apply Exists.intro; refine And.intro (fun w2 hS2 => ?_) (hK _ _ ?_); (focus (obtain hs1 := hS2; go_simp; rfl)); clear hK K))
  refine wpMixH_loud rfl rfl (fun m2 K hK => ?_)
  go_wp2_with fail
  refine (T4.out _).mono ?_
  rintro _ _ ⟨rfl, rfl⟩
  go_wp2_with fail
  refine hK _ _ (fun _ => ct1) ?_; clear hK K
  repeat (first | ((first | refine wpMixH_pure rfl rfl (fun K hK => ?_) | refine wpMixH_loc rfl rfl (fun K hK => ?_) | refine wpMixH_any rfl rfl (fun K hK => ?_)); go_simp; refine hK _ _ ?_; clear hK K) | (refine wpMixH_any rfl rfl (fun K hK => ?_); rw [if_pos (by go_simp)]; apply Exists.intro; refine And.intro (fun w2 hS2 => ?_) (hK _ _ ?_); (focus (obtain hs1 := hS2; go_simp; rfl)); clear hK K))
  refine wpMixH_loud rfl rfl (fun m3 K hK => ?_)
  go_wp2_with fail
  refine (T2.out _).mono ?_
  rintro _ v8 ⟨b8, rfl, S8, p8, m8⟩
  have V8 := Cl.frs m8 V6.out
  have T3 := Lib.hid (fun m => walk_b (n := 0) S8 (below_drewNs (Below.refl _ v8) m) (Cl.lies (Sl.drewN V8 m)) hz8.out)
  replace p8 := Lib.hid p8
  have g8 : Hid (Fr (fun _ => False) v6 (fun _ => False) v8) := Lib.hid ⟨m8.os, m8.tape, m8.output, m8.size, m8.block, m8.new⟩
  clear T1 T2 T4 S8 ct1 V8 V6 p6 m8
  go_wp2_with fail
  refine hK _ _ (fun h => (Bool.false_ne_true ((Eq.symm (by kernel_rfl)).trans h)).elim) ?_; clear hK K
  repeat (first | ((first | refine wpMixH_pure rfl rfl (fun K hK => ?_) | refine wpMixH_loc rfl rfl (fun K hK => ?_) | refine wpMixH_any rfl rfl (fun K hK => ?_)); go_simp; refine hK _ _ ?_; clear hK K) | (refine wpMixH_any rfl rfl (fun K hK => ?_); rw [if_pos (by go_simp)]; apply Exists.intro; refine And.intro (fun w2 hS2 => ?_) (hK _ _ ?_); (focus (obtain hs1 := hS2; go_simp; rfl)); clear hK K))
  refine wpMixH_loud rfl rfl (fun m4 K hK => ?_)
  go_wp2_with fail
  refine (T3.out _).mono ?_
  rintro _ v9 ⟨rfl, m9⟩
  have g9 : Hid (Fr (fun _ => False) v8 (fun _ => False) v9) := Lib.hid ⟨m9.os, m9.tape, m9.output, m9.size, m9.block, m9.new⟩
  replace m9 := Lib.hid m9
  clear T3
  go_wp2_with fail
  refine hK _ _ (fun h => (Bool.false_ne_true ((Eq.symm (by kernel_rfl)).trans h)).elim) ?_; clear hK K
  repeat ((first | refine wpMixH_pure rfl rfl (fun K hK => ?_) | refine wpMixH_loc rfl rfl (fun K hK => ?_) | refine wpMixH_any rfl rfl (fun K hK => ?_)); go_simp; refine hK _ _ ?_; clear hK K)
  refine wpMixH_nil (fun m5 => ?_)
  go_wp2
  go_ret
  have q9 : RP (v9.drewN m5) X6 r q most l6 := ((p8.out.drewN m4).new_ m9.out).drewN m5
  exact ⟨rfl, _, _, q9, (((FF.out.beside f6.out fun _ h => h.elim).beside g8.out fun _ h => h.elim).beside g9.out fun _ h => h.elim).drewN m5, LE.out⟩
end Go.Proofs.YtfhpnlaabgkpjaaDoor
/- redo, by contract: Back. -/
namespace Go.Proofs.YtfhpnlaabgkpjaaDoor
open Go.RowKit Go.Shelf
set_option maxHeartbeats 8000000
set_option linter.unusedVariables false
set_option linter.unusedSimpArgs false

set_option maxRecDepth 100000 in
theorem redo_2 {w : World} {X : Nat → Prop} {r q most : Nat} {l : List (Int × Int)} {on a x n : Int} {vc : Value} (hn : ∃ nn : Nat, n = (nn : Int) ∧ nn ≤ l.length) (h : RP w X r q most l) (hz : (l.length + 2) * 24 ≤ 140737488355328) :
    Calls Tryd.prog 29 #[.pointer (some ⟨r, 0, none⟩), .pointer (some ⟨q, 0, none⟩), .agg #[.int .i64 2, .int .i64 on, .int .u64 a, .int .u64 x, .int .i64 n, vc]] w fun e w' => e = .returned (.bool true) ∧ ∃ X' l', RP w' X' r q most l' ∧ Fr X w X' w' ∧ l'.length ≤ l.length + 1 := by
  obtain ⟨nn, hn0, hnn⟩ := hn
  replace hn0 := hn0.symm
  subst hn0
  have hnn9 := Lib.hid hnn
  clear hnn
  have hmx : Tryd.prog.follows .mixedOrders = true := by kernel_rfl
  have hXl := Lib.hid h.lt
  have hlm := h.hm
  have hll := h.hr
  have hlz := h.hz
  have hli : (l.length : Int) ≤ 9223372036854775807 := by omega
  have hri : ((redo l).length : Int) ≤ 1048576 := by omega
  obtain ⟨W0, hW0⟩ : ∃ u, Hid (u = w.alloc (.cells #[.int .i64 2, .int .i64 on, .int .u64 a, .int .u64 x, .int .i64 (nn : Int), vc] 41)) := ⟨_, Lib.hid rfl⟩
  have b0 : Hid (Blk W0 w.heap.size 41 #[.int .i64 2, .int .i64 on, .int .u64 a, .int .u64 x, .int .i64 (nn : Int), vc]) := Lib.hid (by rw [hW0.out]; exact Blk.new _ _ _)
  have f0 : Hid (Fr (fun _ => False) w (fun _ => False) W0) := Lib.hid (by rw [hW0.out]; exact (Fr.refl _ w).alloc _)
  have p0 := Lib.hid (h.new_ f0.out)
  have R0 := Lib.hid p0.out.redo_b
  have hz9 := Lib.hid hz
  clear h hlm hll hlz hz
  go_enter Tryd.func29, Tryd.ntmps29
  go_upto_region 1 with (fail)
  rw [← hW0.out]
  go_wp2_with fail
  refine R0.out.mono ?_
  rintro _ w4 ⟨A3, cp3, rfl, V4, p4, m4⟩
  replace V4 := Lib.hid V4
  replace p4 := Lib.hid p4
  have b4 := Lib.hid (m4.blk b0.out fun h => h)
  have f4 : Hid (Fr (fun _ => False) w (fun _ => False) w4) := Lib.hid (f0.out.trans (m4.into fun _ h => h.elim))
  clear R0 p0 b0 f0 m4 hW0
  have o0 : w4.cell? ⟨w.heap.size, 0, none⟩ = some (.int .i64 2) := b4.out.cell 0
  have o2 : w4.cell? ⟨w.heap.size, 2, none⟩ = some (.int .u64 a) := b4.out.cell 2
  have o3 : w4.cell? ⟨w.heap.size, 3, none⟩ = some (.int .u64 x) := b4.out.cell 3
  have o4 : w4.cell? ⟨w.heap.size, 4, none⟩ = some (.int .i64 (nn : Int)) := b4.out.cell 4
  have hob : Hid (¬ X w.heap.size) := Lib.hid fun hx => Nat.lt_irrefl _ (hXl.out _ hx)
  generalize w.heap.size = ob at *
  clear hXl b4
  clear V4
  have C1 := Lib.hid (p4.out.back_b hnn9.out)
  go_wp2_with fail
  refine C1.out.mono ?_
  rintro _ w5 ⟨rfl, hk5, A5, cp5, q5, z5, hc5, hm5, H5⟩
  have o45 : w5.cell? ⟨ob, 4, none⟩ = some (.int .i64 (nn : Int)) := hk5 _ _ o4 hob.out
  replace H5 := Lib.hid H5
  have hnl : (nn : Int) ≤ (l.length : Int) := by have := hnn9.out; omega
  have hnc : (nn : Int) ≤ (cp5 : Int) := by omega
  have hn0 : decide ((nn : Int) < 0) = false := decide_eq_false (by omega)
  have hn1 : decide (nn > l.length) = false := decide_eq_false (by omega)
  have hn2 : decide (nn ≤ cp5) = true := decide_eq_true (by omega)
  clear C1 hk5 o2 o3 o4 o0
  go_wp2_with fail
  refine wp_region_mixH (fun _ => True) [3, 1, 3, 3, 3, 1, 3, 3, 3, 1, 3, 3, 3] (List.range 13) (by kernel_rfl) (by kernel_rfl) (fun _ _ h => h) trivial ?_
  repeat ((first | refine wpMixH_pure rfl rfl (fun K hK => ?_) | refine wpMixH_loc rfl rfl (fun K hK => ?_) | refine wpMixH_any rfl rfl (fun K hK => ?_)); go_simp; refine hK _ _ ?_; clear hK K)
  refine wpMixH_nil (fun m1 => ?_)
  go_wp2_with fail
  refine num_b.mono ?_
  rintro _ u6 ⟨rfl, rfl⟩
  go_wp2_with fail
  refine wp_region_mixH (fun _ => True) [3, 3, 3, 3, 1, 3, 1, 3, 1, 3, 3, 3, 2] (List.range 13) (by kernel_rfl) (by kernel_rfl) (fun _ _ h => h) trivial ?_
  repeat ((first | refine wpMixH_pure rfl rfl (fun K hK => ?_) | refine wpMixH_loc rfl rfl (fun K hK => ?_) | refine wpMixH_any rfl rfl (fun K hK => ?_)); go_simp; refine hK _ _ ?_; clear hK K)
  refine wpMixH_loud rfl rfl (fun m2 K hK => ?_)
  go_wp2_with fail
  refine hK _ _ (fun h => (Bool.false_ne_true ((Eq.symm (by kernel_rfl)).trans h)).elim) ?_; clear hK K
  refine wpMixH_nil (fun m3 => ?_)
  go_upto_region 28 with (fail)
  obtain ⟨X6, p6, f6⟩ := H5.out (1 + m1 + 1 + m2)
  have PP := Lib.hid (p6.drewN m3)
  have FF : Hid (Fr X w X6 (((w5.drewN (1 + m1 + 1 + m2)).setCell ⟨q, 1, none⟩ (.slice A5 nn nn)).drewN m3)) := Lib.hid ((((Fr.refl X w).beside f4.out fun _ h => h.elim).trans f6).drewN m3)
  have LE : Hid ((l.take nn).length ≤ l.length + 1) := Lib.hid (by rw [List.length_take]; omega)
  clear p6 f6 H5 p4 f4
  generalize ((w5.drewN (1 + m1 + 1 + m2)).setCell ⟨q, 1, none⟩ (.slice A5 nn nn)).drewN m3 = W9 at *
  generalize l.take nn = l6 at *
  have R1 := Lib.hid PP.out.redo_b
  go_wp2_with fail
  refine R1.out.mono ?_
  rintro _ v6 ⟨A6, c6, rfl, V6, p6, f6⟩
  replace V6 := Lib.hid V6
  replace p6 := Lib.hid p6
  replace f6 := Lib.hid f6
  obtain ⟨At, ct, ct1, _⟩ := p6.out.slice
  have hlm := p6.out.hm
  have hll := p6.out.hr
  have hzz := p6.out.hz
  have hlli : ((redo l6).length : Int) ≤ 1048576 := by omega
  have hll9 : (l6.length : Int) ≤ 9223372036854775807 := by omega
  have T1 := Lib.hid (fun m => (p6.out.drewN m).len_b)
  have T4 := Lib.hid (fun m => (p6.out.drewN m).mark_b)
  have T2 := Lib.hid (fun m => (p6.out.drewN m).all_b)
  have hz8 := Lib.hid (show (redo l6).length ≤ 4611686018427387904 by omega)
  clear hlm hll hzz R1
  go_wp2_with fail
  refine wp_region_mixH (fun W => W.cell? ⟨q, 1, none⟩ = some (.slice At l6.length ct)) [3, 2, 3, 3, 3, 3, 3, 2, 3, 3, 3, 0, 3, 3, 3, 3, 3, 2, 3, 2, 3, 3] [0, 2, 3, 1, 4, 5, 6, 8, 9, 10, 11, 12, 7, 13, 14, 15, 16, 18, 17, 19, 20, 21] (by kernel_rfl) (by kernel_rfl) (fun _ _ h => h) ct1 ?_
  repeat (first | ((first | refine wpMixH_pure rfl rfl (fun K hK => ?_) | refine wpMixH_loc rfl rfl (fun K hK => ?_) | refine wpMixH_any rfl rfl (fun K hK => ?_)); go_simp; refine hK _ _ ?_; clear hK K) | (refine wpMixH_any rfl rfl (fun K hK => ?_); rw [if_pos (by go_simp)]; apply Exists.intro; refine And.intro (fun w2 hS2 => ?_) (hK _ _ ?_); (focus (obtain hs1 := hS2; go_simp; rfl)); clear hK K))
  refine wpMixH_loud rfl rfl (fun m1 K hK => ?_)
  go_wp2_with fail
  refine (T1.out _).mono ?_
  rintro _ _ ⟨rfl, rfl⟩
  go_wp2_with fail
  refine hK _ _ (fun _ => ct1) ?_; clear hK K
  repeat (first | ((first | refine wpMixH_pure rfl rfl (fun K hK => ?_) | refine wpMixH_loc rfl rfl (fun K hK => ?_) | refine wpMixH_any rfl rfl (fun K hK => ?_)); go_simp; refine hK _ _ ?_; clear hK K) | (refine wpMixH_any rfl rfl (fun K hK => ?_); rw [if_pos (by go_simp)]; apply Exists.intro; refine And.intro (fun w2 hS2 => ?_) (hK _ _ ?_); (focus (obtain hs1 := hS2; go_simp; rfl)); clear hK K))
  refine wpMixH_loud rfl rfl (fun m2 K hK => ?_)
  go_wp2_with fail
  refine (T4.out _).mono ?_
  rintro _ _ ⟨rfl, rfl⟩
  go_wp2_with fail
  refine hK _ _ (fun _ => ct1) ?_; clear hK K
  repeat (first | ((first | refine wpMixH_pure rfl rfl (fun K hK => ?_) | refine wpMixH_loc rfl rfl (fun K hK => ?_) | refine wpMixH_any rfl rfl (fun K hK => ?_)); go_simp; refine hK _ _ ?_; clear hK K) | (refine wpMixH_any rfl rfl (fun K hK => ?_); rw [if_pos (by go_simp)]; apply Exists.intro; refine And.intro (fun w2 hS2 => ?_) (hK _ _ ?_); (focus (obtain hs1 := hS2; go_simp; rfl)); clear hK K))
  refine wpMixH_loud rfl rfl (fun m3 K hK => ?_)
  go_wp2_with fail
  refine (T2.out _).mono ?_
  rintro _ v8 ⟨b8, rfl, S8, p8, m8⟩
  have V8 := Cl.frs m8 V6.out
  have T3 := Lib.hid (fun m => walk_b (n := 0) S8 (below_drewNs (Below.refl _ v8) m) (Cl.lies (Sl.drewN V8 m)) hz8.out)
  replace p8 := Lib.hid p8
  have g8 : Hid (Fr (fun _ => False) v6 (fun _ => False) v8) := Lib.hid ⟨m8.os, m8.tape, m8.output, m8.size, m8.block, m8.new⟩
  clear T1 T2 T4 S8 ct1 V8 V6 p6 m8
  go_wp2_with fail
  refine hK _ _ (fun h => (Bool.false_ne_true ((Eq.symm (by kernel_rfl)).trans h)).elim) ?_; clear hK K
  repeat (first | ((first | refine wpMixH_pure rfl rfl (fun K hK => ?_) | refine wpMixH_loc rfl rfl (fun K hK => ?_) | refine wpMixH_any rfl rfl (fun K hK => ?_)); go_simp; refine hK _ _ ?_; clear hK K) | (refine wpMixH_any rfl rfl (fun K hK => ?_); rw [if_pos (by go_simp)]; apply Exists.intro; refine And.intro (fun w2 hS2 => ?_) (hK _ _ ?_); (focus (obtain hs1 := hS2; go_simp; rfl)); clear hK K))
  refine wpMixH_loud rfl rfl (fun m4 K hK => ?_)
  go_wp2_with fail
  refine (T3.out _).mono ?_
  rintro _ v9 ⟨rfl, m9⟩
  have g9 : Hid (Fr (fun _ => False) v8 (fun _ => False) v9) := Lib.hid ⟨m9.os, m9.tape, m9.output, m9.size, m9.block, m9.new⟩
  replace m9 := Lib.hid m9
  clear T3
  go_wp2_with fail
  refine hK _ _ (fun h => (Bool.false_ne_true ((Eq.symm (by kernel_rfl)).trans h)).elim) ?_; clear hK K
  repeat ((first | refine wpMixH_pure rfl rfl (fun K hK => ?_) | refine wpMixH_loc rfl rfl (fun K hK => ?_) | refine wpMixH_any rfl rfl (fun K hK => ?_)); go_simp; refine hK _ _ ?_; clear hK K)
  refine wpMixH_nil (fun m5 => ?_)
  go_wp2
  go_ret
  have q9 : RP (v9.drewN m5) X6 r q most l6 := ((p8.out.drewN m4).new_ m9.out).drewN m5
  exact ⟨rfl, _, _, q9, (((FF.out.beside f6.out fun _ h => h.elim).beside g8.out fun _ h => h.elim).beside g9.out fun _ h => h.elim).drewN m5, LE.out⟩
end Go.Proofs.YtfhpnlaabgkpjaaDoor
/- redo, by contract: Back to what is not there. -/
namespace Go.Proofs.YtfhpnlaabgkpjaaDoor
open Go.RowKit Go.Shelf
set_option maxHeartbeats 8000000
set_option linter.unusedVariables false
set_option linter.unusedSimpArgs false

set_option maxRecDepth 100000 in
theorem redo_2n {w : World} {X : Nat → Prop} {r q most : Nat} {l : List (Int × Int)} {on a x n : Int} {vc : Value} (hn : n < 0 ∨ (l.length : Int) < n) (hi1 : -9223372036854775808 ≤ n) (hi2 : n ≤ 9223372036854775807) (h : RP w X r q most l) (hz : (l.length + 2) * 24 ≤ 140737488355328) :
    Calls Tryd.prog 29 #[.pointer (some ⟨r, 0, none⟩), .pointer (some ⟨q, 0, none⟩), .agg #[.int .i64 2, .int .i64 on, .int .u64 a, .int .u64 x, .int .i64 n, vc]] w fun e w' => e = .returned (.bool true) ∧ ∃ X' l', RP w' X' r q most l' ∧ Fr X w X' w' ∧ l'.length ≤ l.length + 1 := by
  have hn9 := Lib.hid (show (n < 0 ∨ (l.length : Int) < n) ∧ -9223372036854775808 ≤ n ∧ n ≤ 9223372036854775807 from ⟨hn, hi1, hi2⟩)
  clear hn hi1 hi2
  have hmx : Tryd.prog.follows .mixedOrders = true := by kernel_rfl
  have hXl := Lib.hid h.lt
  have hlm := h.hm
  have hll := h.hr
  have hlz := h.hz
  have hli : (l.length : Int) ≤ 9223372036854775807 := by omega
  have hri : ((redo l).length : Int) ≤ 1048576 := by omega
  obtain ⟨W0, hW0⟩ : ∃ u, Hid (u = w.alloc (.cells #[.int .i64 2, .int .i64 on, .int .u64 a, .int .u64 x, .int .i64 n, vc] 41)) := ⟨_, Lib.hid rfl⟩
  have b0 : Hid (Blk W0 w.heap.size 41 #[.int .i64 2, .int .i64 on, .int .u64 a, .int .u64 x, .int .i64 n, vc]) := Lib.hid (by rw [hW0.out]; exact Blk.new _ _ _)
  have f0 : Hid (Fr (fun _ => False) w (fun _ => False) W0) := Lib.hid (by rw [hW0.out]; exact (Fr.refl _ w).alloc _)
  have p0 := Lib.hid (h.new_ f0.out)
  have R0 := Lib.hid p0.out.redo_b
  have hz9 := Lib.hid hz
  clear h hlm hll hlz hz
  go_enter Tryd.func29, Tryd.ntmps29
  go_upto_region 1 with (fail)
  rw [← hW0.out]
  go_wp2_with fail
  refine R0.out.mono ?_
  rintro _ w4 ⟨A3, cp3, rfl, V4, p4, m4⟩
  replace V4 := Lib.hid V4
  replace p4 := Lib.hid p4
  have b4 := Lib.hid (m4.blk b0.out fun h => h)
  have f4 : Hid (Fr (fun _ => False) w (fun _ => False) w4) := Lib.hid (f0.out.trans (m4.into fun _ h => h.elim))
  clear R0 p0 b0 f0 m4 hW0
  have o0 : w4.cell? ⟨w.heap.size, 0, none⟩ = some (.int .i64 2) := b4.out.cell 0
  have o2 : w4.cell? ⟨w.heap.size, 2, none⟩ = some (.int .u64 a) := b4.out.cell 2
  have o3 : w4.cell? ⟨w.heap.size, 3, none⟩ = some (.int .u64 x) := b4.out.cell 3
  have o4 : w4.cell? ⟨w.heap.size, 4, none⟩ = some (.int .i64 n) := b4.out.cell 4
  have hob : Hid (¬ X w.heap.size) := Lib.hid fun hx => Nat.lt_irrefl _ (hXl.out _ hx)
  generalize w.heap.size = ob at *
  clear hXl b4
  clear V4
  have C1 := Lib.hid (p4.out.backNo_b hn9.out.1 hn9.out.2.1 hn9.out.2.2)
  obtain ⟨Ax, cx, cx1, _⟩ := p4.out.slice
  go_wp2_with fail
  refine C1.out.mono ?_
  rintro _ w5 ⟨rfl, rfl⟩
  have hd := hn9.out
  have hcase : decide (n < 0) = true ∨ (decide (n < 0) = false ∧ decide (n > (l.length : Int)) = true) := by
    by_cases h0 : n < 0
    · exact .inl (decide_eq_true h0)
    · exact .inr ⟨decide_eq_false h0, decide_eq_true (by omega)⟩
  clear C1 hd o2 o3 o0 hn9
  go_wp2_with fail
  rcases hcase with hd0 | ⟨hd0, hd1⟩
  all_goals
    refine wp_region_mixH (fun _ => True) [3, 1, 3, 3, 3, 1, 3, 3, 3, 1, 3, 3, 3] (List.range 13) (by kernel_rfl) (by kernel_rfl) (fun _ _ h => h) trivial ?_
    repeat ((first | refine wpMixH_pure rfl rfl (fun K hK => ?_) | refine wpMixH_loc rfl rfl (fun K hK => ?_) | refine wpMixH_any rfl rfl (fun K hK => ?_)); go_simp; refine hK _ _ ?_; clear hK K)
    refine wpMixH_nil (fun m1 => ?_)
    go_wp2_with fail
    refine num_b.mono ?_
    rintro _ u6 ⟨rfl, rfl⟩
    have PP := Lib.hid (p4.out.drewN (1 + m1))
    have FF : Hid (Fr X w X (w4.drewN (1 + m1))) := Lib.hid (((Fr.refl X w).beside f4.out fun _ h => h.elim).drewN (1 + m1))
    have LE : Hid (l.length ≤ l.length + 1) := Lib.hid (Nat.le_succ _)
    go_upto_region 28 with (fail)
    generalize w4.drewN (1 + m1) = W9 at *
    have R1 := Lib.hid PP.out.redo_b
    go_wp2_with fail
    refine R1.out.mono ?_
    rintro _ v6 ⟨A6, c6, rfl, V6, p6, f6⟩
    replace V6 := Lib.hid V6
    replace p6 := Lib.hid p6
    replace f6 := Lib.hid f6
    obtain ⟨At, ct, ct1, _⟩ := p6.out.slice
    have hlm := p6.out.hm
    have hll := p6.out.hr
    have hzz := p6.out.hz
    have hlli : ((redo l).length : Int) ≤ 1048576 := by omega
    have hll9 : (l.length : Int) ≤ 9223372036854775807 := by omega
    have T1 := Lib.hid (fun m => (p6.out.drewN m).len_b)
    have T4 := Lib.hid (fun m => (p6.out.drewN m).mark_b)
    have T2 := Lib.hid (fun m => (p6.out.drewN m).all_b)
    have hz8 := Lib.hid (show (redo l).length ≤ 4611686018427387904 by omega)
    clear hlm hll hzz R1
    go_wp2_with fail
    refine wp_region_mixH (fun W => W.cell? ⟨q, 1, none⟩ = some (.slice At l.length ct)) [3, 2, 3, 3, 3, 3, 3, 2, 3, 3, 3, 0, 3, 3, 3, 3, 3, 2, 3, 2, 3, 3] [0, 2, 3, 1, 4, 5, 6, 8, 9, 10, 11, 12, 7, 13, 14, 15, 16, 18, 17, 19, 20, 21] (by kernel_rfl) (by kernel_rfl) (fun _ _ h => h) ct1 ?_
    repeat (first | ((first | refine wpMixH_pure rfl rfl (fun K hK => ?_) | refine wpMixH_loc rfl rfl (fun K hK => ?_) | refine wpMixH_any rfl rfl (fun K hK => ?_)); go_simp; refine hK _ _ ?_; clear hK K) | (refine wpMixH_any rfl rfl (fun K hK => ?_); rw [if_pos (by go_simp)]; apply Exists.intro; refine And.intro (fun w2 hS2 => ?_) (hK _ _ ?_); (focus (obtain hs1 := hS2; go_simp; rfl)); clear hK K))
    refine wpMixH_loud rfl rfl (fun m1 K hK => ?_)
    go_wp2_with fail
    refine (T1.out _).mono ?_
    rintro _ _ ⟨rfl, rfl⟩
    go_wp2_with fail
    refine hK _ _ (fun _ => ct1) ?_; clear hK K
    repeat (first | ((first | refine wpMixH_pure rfl rfl (fun K hK => ?_) | refine wpMixH_loc rfl rfl (fun K hK => ?_) | refine wpMixH_any rfl rfl (fun K hK => ?_)); go_simp; refine hK _ _ ?_; clear hK K) | (refine wpMixH_any rfl rfl (fun K hK => ?_); rw [if_pos (by go_simp)]; apply Exists.intro; refine And.intro (fun w2 hS2 => ?_) (hK _ _ ?_); (focus (obtain hs1 := hS2; go_simp; rfl)); clear hK K))
    refine wpMixH_loud rfl rfl (fun m2 K hK => ?_)
    go_wp2_with fail
    refine (T4.out _).mono ?_
    rintro _ _ ⟨rfl, rfl⟩
    go_wp2_with fail
    refine hK _ _ (fun _ => ct1) ?_; clear hK K
    repeat (first | ((first | refine wpMixH_pure rfl rfl (fun K hK => ?_) | refine wpMixH_loc rfl rfl (fun K hK => ?_) | refine wpMixH_any rfl rfl (fun K hK => ?_)); go_simp; refine hK _ _ ?_; clear hK K) | (refine wpMixH_any rfl rfl (fun K hK => ?_); rw [if_pos (by go_simp)]; apply Exists.intro; refine And.intro (fun w2 hS2 => ?_) (hK _ _ ?_); (focus (obtain hs1 := hS2; go_simp; rfl)); clear hK K))
    refine wpMixH_loud rfl rfl (fun m3 K hK => ?_)
    go_wp2_with fail
    refine (T2.out _).mono ?_
    rintro _ v8 ⟨b8, rfl, S8, p8, m8⟩
    have V8 := Cl.frs m8 V6.out
    have T3 := Lib.hid (fun m => walk_b (n := 0) S8 (below_drewNs (Below.refl _ v8) m) (Cl.lies (Sl.drewN V8 m)) hz8.out)
    replace p8 := Lib.hid p8
    have g8 : Hid (Fr (fun _ => False) v6 (fun _ => False) v8) := Lib.hid ⟨m8.os, m8.tape, m8.output, m8.size, m8.block, m8.new⟩
    clear T1 T2 T4 S8 ct1 V8 V6 p6 m8
    go_wp2_with fail
    refine hK _ _ (fun h => (Bool.false_ne_true ((Eq.symm (by kernel_rfl)).trans h)).elim) ?_; clear hK K
    repeat (first | ((first | refine wpMixH_pure rfl rfl (fun K hK => ?_) | refine wpMixH_loc rfl rfl (fun K hK => ?_) | refine wpMixH_any rfl rfl (fun K hK => ?_)); go_simp; refine hK _ _ ?_; clear hK K) | (refine wpMixH_any rfl rfl (fun K hK => ?_); rw [if_pos (by go_simp)]; apply Exists.intro; refine And.intro (fun w2 hS2 => ?_) (hK _ _ ?_); (focus (obtain hs1 := hS2; go_simp; rfl)); clear hK K))
    refine wpMixH_loud rfl rfl (fun m4 K hK => ?_)
    go_wp2_with fail
    refine (T3.out _).mono ?_
    rintro _ v9 ⟨rfl, m9⟩
    have g9 : Hid (Fr (fun _ => False) v8 (fun _ => False) v9) := Lib.hid ⟨m9.os, m9.tape, m9.output, m9.size, m9.block, m9.new⟩
    replace m9 := Lib.hid m9
    clear T3
    go_wp2_with fail
    refine hK _ _ (fun h => (Bool.false_ne_true ((Eq.symm (by kernel_rfl)).trans h)).elim) ?_; clear hK K
    repeat ((first | refine wpMixH_pure rfl rfl (fun K hK => ?_) | refine wpMixH_loc rfl rfl (fun K hK => ?_) | refine wpMixH_any rfl rfl (fun K hK => ?_)); go_simp; refine hK _ _ ?_; clear hK K)
    refine wpMixH_nil (fun m5 => ?_)
    go_wp2
    go_ret
    have q9 : RP (v9.drewN m5) X r q most l := ((p8.out.drewN m4).new_ m9.out).drewN m5
    exact ⟨rfl, _, _, q9, (((FF.out.beside f6.out fun _ h => h.elim).beside g8.out fun _ h => h.elim).beside g9.out fun _ h => h.elim).drewN m5, LE.out⟩
end Go.Proofs.YtfhpnlaabgkpjaaDoor
/- redo, by contract: At. -/
namespace Go.Proofs.YtfhpnlaabgkpjaaDoor
open Go.RowKit Go.Shelf
set_option maxHeartbeats 8000000
set_option linter.unusedVariables false
set_option linter.unusedSimpArgs false

set_option maxRecDepth 100000 in
theorem redo_4 {w : World} {X : Nat → Prop} {r q most : Nat} {l : List (Int × Int)} {on a x n : Int} {vc : Value} (hn : ∃ nn : Nat, n = (nn : Int) ∧ nn < (redo l).length) (h : RP w X r q most l) (hz : (l.length + 2) * 24 ≤ 140737488355328) :
    Calls Tryd.prog 29 #[.pointer (some ⟨r, 0, none⟩), .pointer (some ⟨q, 0, none⟩), .agg #[.int .i64 4, .int .i64 on, .int .u64 a, .int .u64 x, .int .i64 n, vc]] w fun e w' => e = .returned (.bool true) ∧ ∃ X' l', RP w' X' r q most l' ∧ Fr X w X' w' ∧ l'.length ≤ l.length + 1 := by
  obtain ⟨nn, hn0, hnn⟩ := hn
  replace hn0 := hn0.symm
  subst hn0
  have hnn9 := Lib.hid hnn
  clear hnn
  have hmx : Tryd.prog.follows .mixedOrders = true := by kernel_rfl
  have hXl := Lib.hid h.lt
  have hlm := h.hm
  have hll := h.hr
  have hlz := h.hz
  have hli : (l.length : Int) ≤ 9223372036854775807 := by omega
  have hri : ((redo l).length : Int) ≤ 1048576 := by omega
  obtain ⟨W0, hW0⟩ : ∃ u, Hid (u = w.alloc (.cells #[.int .i64 4, .int .i64 on, .int .u64 a, .int .u64 x, .int .i64 (nn : Int), vc] 41)) := ⟨_, Lib.hid rfl⟩
  have b0 : Hid (Blk W0 w.heap.size 41 #[.int .i64 4, .int .i64 on, .int .u64 a, .int .u64 x, .int .i64 (nn : Int), vc]) := Lib.hid (by rw [hW0.out]; exact Blk.new _ _ _)
  have f0 : Hid (Fr (fun _ => False) w (fun _ => False) W0) := Lib.hid (by rw [hW0.out]; exact (Fr.refl _ w).alloc _)
  have p0 := Lib.hid (h.new_ f0.out)
  have R0 := Lib.hid p0.out.redo_b
  have hz9 := Lib.hid hz
  clear h hlm hll hlz hz
  go_enter Tryd.func29, Tryd.ntmps29
  go_upto_region 1 with (fail)
  rw [← hW0.out]
  go_wp2_with fail
  refine R0.out.mono ?_
  rintro _ w4 ⟨A3, cp3, rfl, V4, p4, m4⟩
  replace V4 := Lib.hid V4
  replace p4 := Lib.hid p4
  have b4 := Lib.hid (m4.blk b0.out fun h => h)
  have f4 : Hid (Fr (fun _ => False) w (fun _ => False) w4) := Lib.hid (f0.out.trans (m4.into fun _ h => h.elim))
  clear R0 p0 b0 f0 m4 hW0
  have o0 : w4.cell? ⟨w.heap.size, 0, none⟩ = some (.int .i64 4) := b4.out.cell 0
  have o2 : w4.cell? ⟨w.heap.size, 2, none⟩ = some (.int .u64 a) := b4.out.cell 2
  have o3 : w4.cell? ⟨w.heap.size, 3, none⟩ = some (.int .u64 x) := b4.out.cell 3
  have o4 : w4.cell? ⟨w.heap.size, 4, none⟩ = some (.int .i64 (nn : Int)) := b4.out.cell 4
  have hob : Hid (¬ X w.heap.size) := Lib.hid fun hx => Nat.lt_irrefl _ (hXl.out _ hx)
  generalize w.heap.size = ob at *
  clear hXl b4
  have C1 := Lib.hid (p4.out.atYes_b hnn9.out)
  obtain ⟨va, hva⟩ : ∃ u, Hid (((redo l)[nn]'hnn9.out).1 = u) := ⟨_, Lib.hid rfl⟩
  obtain ⟨vw, hvw⟩ : ∃ u, Hid (((redo l)[nn]'hnn9.out).2 = u) := ⟨_, Lib.hid rfl⟩
  rw [hva.out, hvw.out] at C1
  go_wp2_with fail
  refine C1.out.mono ?_
  rintro _ w5 ⟨rfl, f5⟩
  obtain ⟨w6, hw6⟩ : ∃ u, Hid (u = w5.alloc (.cells #[.int .u64 va, .int .u64 vw] 55)) := ⟨_, Lib.hid rfl⟩
  have f6 : Hid (Fr (fun _ => False) w4 (fun _ => False) w6) := Lib.hid (by rw [hw6.out]; exact f5.alloc _)
  have p6 := Lib.hid (p4.out.new_ f6.out)
  have V6 := Lib.hid (Cl.frs f6.out V4.out)
  have o46 := f6.out.keep_cell o4
  have b6 : Hid (Blk w6 w5.heap.size 55 #[.int .u64 va, .int .u64 vw]) := Lib.hid (by rw [hw6.out]; exact Blk.new _ _ _)
  have v0 : w6.cell? ⟨w5.heap.size, 0, none⟩ = some (.int .u64 va) := b6.out.cell 0
  have v1 : w6.cell? ⟨w5.heap.size, 1, none⟩ = some (.int .u64 vw) := b6.out.cell 1
  have cne := fun w => cell_neq va vw va vw w
  simp only [decide_true, Bool.and_self, Bool.not_true] at cne
  clear f5 p4 o0 o2 o3 o4 b6 V4 C1
  obtain ⟨A', cp', eA, _, _, hcl⟩ := Cl.lies V6.out
  injection eA with e1 e2 e3
  subst e1 e3
  obtain ⟨g, o, rfl, hg, d0, d1⟩ := hcl nn hnn9.out
  rw [hva.out] at d0
  rw [hvw.out] at d1
  have hnl : (nn : Int) < ((redo l).length : Int) := by have := hnn9.out; omega
  have hn0 : decide ((nn : Int) ≥ 0) = true := decide_eq_true (by omega)
  have hn1 : decide (nn < (redo l).length) = true := decide_eq_true hnn9.out
  clear hcl hg e2 V6
  go_upto_region 16 with (fail)
  rw [← hw6.out]
  generalize w5.heap.size = sb at *
  go_wp2_with fail
  refine wp_region_mixH (fun W => W.cell? ⟨sb, 0, none⟩ = some (.int .u64 va) ∧ W.cell? ⟨sb, 1, none⟩ = some (.int .u64 vw)) [3, 3, 3, 3, 3, 3, 1, 3, 3, 1, 3, 1, 3, 3, 3, 3, 3, 3, 3, 0, 2, 3, 3, 3] (List.range 24) (by kernel_rfl) (by kernel_rfl) (fun _ _ h => h) ⟨v0, v1⟩ ?_
  repeat (first | ((first | refine wpMixH_pure rfl rfl (fun K hK => ?_) | refine wpMixH_loc rfl rfl (fun K hK => ?_) | refine wpMixH_any rfl rfl (fun K hK => ?_)); go_simp; refine hK _ _ ?_; clear hK K) | (refine wpMixH_any rfl rfl (fun K hK => ?_); rw [if_pos (by go_simp)]; apply Exists.intro; refine And.intro (fun w2 hS2 => ?_) (hK _ _ ?_); (focus (obtain ⟨hs1, hs2⟩ := hS2; go_simp; rfl)); clear hK K))
  refine wpMixH_loud rfl rfl (fun m2 K hK => ?_)
  go_wp2_with fail
  refine hK _ _ (fun _ => ⟨v0, v1⟩) ?_; clear hK K
  repeat (first | ((first | refine wpMixH_pure rfl rfl (fun K hK => ?_) | refine wpMixH_loc rfl rfl (fun K hK => ?_) | refine wpMixH_any rfl rfl (fun K hK => ?_)); go_simp; refine hK _ _ ?_; clear hK K) | (refine wpMixH_any rfl rfl (fun K hK => ?_); rw [if_pos (by go_simp)]; apply Exists.intro; refine And.intro (fun w2 hS2 => ?_) (hK _ _ ?_); (focus (obtain ⟨hs1, hs2⟩ := hS2; go_simp; rfl)); clear hK K))
  refine wpMixH_nil (fun m3 => ?_)
  go_upto_region 28 with (fail)
  rw [drewN_drewN]
  have PP := Lib.hid (p6.out.drewN (1 + m2 + m3))
  have FF : Hid (Fr X w X (w6.drewN (1 + m2 + m3))) := Lib.hid (((Fr.refl X w).beside (f4.out.trans f6.out) fun _ h => h.elim).drewN (1 + m2 + m3))
  have LE : Hid (l.length ≤ l.length + 1) := Lib.hid (Nat.le_succ _)
  clear p6 f6 f4 v0 v1 o46
  generalize w6.drewN (1 + m2 + m3) = W9 at *
  have R1 := Lib.hid PP.out.redo_b
  go_wp2_with fail
  refine R1.out.mono ?_
  rintro _ v6 ⟨A6, c6, rfl, V6, p6, f6⟩
  replace V6 := Lib.hid V6
  replace p6 := Lib.hid p6
  replace f6 := Lib.hid f6
  obtain ⟨At, ct, ct1, _⟩ := p6.out.slice
  have hlm := p6.out.hm
  have hll := p6.out.hr
  have hzz := p6.out.hz
  have hlli : ((redo l).length : Int) ≤ 1048576 := by omega
  have hll9 : (l.length : Int) ≤ 9223372036854775807 := by omega
  have T1 := Lib.hid (fun m => (p6.out.drewN m).len_b)
  have T4 := Lib.hid (fun m => (p6.out.drewN m).mark_b)
  have T2 := Lib.hid (fun m => (p6.out.drewN m).all_b)
  have hz8 := Lib.hid (show (redo l).length ≤ 4611686018427387904 by omega)
  clear hlm hll hzz R1
  go_wp2_with fail
  refine wp_region_mixH (fun W => W.cell? ⟨q, 1, none⟩ = some (.slice At l.length ct)) [3, 2, 3, 3, 3, 3, 3, 2, 3, 3, 3, 0, 3, 3, 3, 3, 3, 2, 3, 2, 3, 3] [0, 2, 3, 1, 4, 5, 6, 8, 9, 10, 11, 12, 7, 13, 14, 15, 16, 18, 17, 19, 20, 21] (by kernel_rfl) (by kernel_rfl) (fun _ _ h => h) ct1 ?_
  repeat (first | ((first | refine wpMixH_pure rfl rfl (fun K hK => ?_) | refine wpMixH_loc rfl rfl (fun K hK => ?_) | refine wpMixH_any rfl rfl (fun K hK => ?_)); go_simp; refine hK _ _ ?_; clear hK K) | (refine wpMixH_any rfl rfl (fun K hK => ?_); rw [if_pos (by go_simp)]; apply Exists.intro; refine And.intro (fun w2 hS2 => ?_) (hK _ _ ?_); (focus (obtain hs1 := hS2; go_simp; rfl)); clear hK K))
  refine wpMixH_loud rfl rfl (fun m1 K hK => ?_)
  go_wp2_with fail
  refine (T1.out _).mono ?_
  rintro _ _ ⟨rfl, rfl⟩
  go_wp2_with fail
  refine hK _ _ (fun _ => ct1) ?_; clear hK K
  repeat (first | ((first | refine wpMixH_pure rfl rfl (fun K hK => ?_) | refine wpMixH_loc rfl rfl (fun K hK => ?_) | refine wpMixH_any rfl rfl (fun K hK => ?_)); go_simp; refine hK _ _ ?_; clear hK K) | (refine wpMixH_any rfl rfl (fun K hK => ?_); rw [if_pos (by go_simp)]; apply Exists.intro; refine And.intro (fun w2 hS2 => ?_) (hK _ _ ?_); (focus (obtain hs1 := hS2; go_simp; rfl)); clear hK K))
  refine wpMixH_loud rfl rfl (fun m2 K hK => ?_)
  go_wp2_with fail
  refine (T4.out _).mono ?_
  rintro _ _ ⟨rfl, rfl⟩
  go_wp2_with fail
  refine hK _ _ (fun _ => ct1) ?_; clear hK K
  repeat (first | ((first | refine wpMixH_pure rfl rfl (fun K hK => ?_) | refine wpMixH_loc rfl rfl (fun K hK => ?_) | refine wpMixH_any rfl rfl (fun K hK => ?_)); go_simp; refine hK _ _ ?_; clear hK K) | (refine wpMixH_any rfl rfl (fun K hK => ?_); rw [if_pos (by go_simp)]; apply Exists.intro; refine And.intro (fun w2 hS2 => ?_) (hK _ _ ?_); (focus (obtain hs1 := hS2; go_simp; rfl)); clear hK K))
  refine wpMixH_loud rfl rfl (fun m3 K hK => ?_)
  go_wp2_with fail
  refine (T2.out _).mono ?_
  rintro _ v8 ⟨b8, rfl, S8, p8, m8⟩
  have V8 := Cl.frs m8 V6.out
  have T3 := Lib.hid (fun m => walk_b (n := 0) S8 (below_drewNs (Below.refl _ v8) m) (Cl.lies (Sl.drewN V8 m)) hz8.out)
  replace p8 := Lib.hid p8
  have g8 : Hid (Fr (fun _ => False) v6 (fun _ => False) v8) := Lib.hid ⟨m8.os, m8.tape, m8.output, m8.size, m8.block, m8.new⟩
  clear T1 T2 T4 S8 ct1 V8 V6 p6 m8
  go_wp2_with fail
  refine hK _ _ (fun h => (Bool.false_ne_true ((Eq.symm (by kernel_rfl)).trans h)).elim) ?_; clear hK K
  repeat (first | ((first | refine wpMixH_pure rfl rfl (fun K hK => ?_) | refine wpMixH_loc rfl rfl (fun K hK => ?_) | refine wpMixH_any rfl rfl (fun K hK => ?_)); go_simp; refine hK _ _ ?_; clear hK K) | (refine wpMixH_any rfl rfl (fun K hK => ?_); rw [if_pos (by go_simp)]; apply Exists.intro; refine And.intro (fun w2 hS2 => ?_) (hK _ _ ?_); (focus (obtain hs1 := hS2; go_simp; rfl)); clear hK K))
  refine wpMixH_loud rfl rfl (fun m4 K hK => ?_)
  go_wp2_with fail
  refine (T3.out _).mono ?_
  rintro _ v9 ⟨rfl, m9⟩
  have g9 : Hid (Fr (fun _ => False) v8 (fun _ => False) v9) := Lib.hid ⟨m9.os, m9.tape, m9.output, m9.size, m9.block, m9.new⟩
  replace m9 := Lib.hid m9
  clear T3
  go_wp2_with fail
  refine hK _ _ (fun h => (Bool.false_ne_true ((Eq.symm (by kernel_rfl)).trans h)).elim) ?_; clear hK K
  repeat ((first | refine wpMixH_pure rfl rfl (fun K hK => ?_) | refine wpMixH_loc rfl rfl (fun K hK => ?_) | refine wpMixH_any rfl rfl (fun K hK => ?_)); go_simp; refine hK _ _ ?_; clear hK K)
  refine wpMixH_nil (fun m5 => ?_)
  go_wp2
  go_ret
  have q9 : RP (v9.drewN m5) X r q most l := ((p8.out.drewN m4).new_ m9.out).drewN m5
  exact ⟨rfl, _, _, q9, (((FF.out.beside f6.out fun _ h => h.elim).beside g8.out fun _ h => h.elim).beside g9.out fun _ h => h.elim).drewN m5, LE.out⟩
end Go.Proofs.YtfhpnlaabgkpjaaDoor
