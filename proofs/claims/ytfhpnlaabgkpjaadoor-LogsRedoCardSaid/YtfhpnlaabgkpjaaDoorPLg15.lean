/- LogsReads: the law's walk, the logs made. -/
import Derived.ProofKit
import Derived.LaidMore
import Derived.OpenShut
import Derived.Stop.Joined
import Derived.Test.YtfhpnlaabgkpjaaDoorTie
import Derived.Test.YtfhpnlaabgkpjaaDoorCards
import Derived.Test.YtfhpnlaabgkpjaaDoorPLg12
import Derived.Test.YtfhpnlaabgkpjaaDoorPLg14
namespace Go.Proofs.YtfhpnlaabgkpjaaDoor
open Go.RowKit Go.Shelf
set_option maxHeartbeats 16000000
set_option linter.unusedVariables false
set_option linter.unusedSimpArgs false

theorem LS.cells {w wr : World} {bo bq : Nat} {r q : Nat → Nat} {mm : Nat} {X : Nat → Nat → Prop} {l : Nat → List (Int × Int)} (h : LS w wr bo bq r q mm X l) {j : Nat} (hj : j < 2) :
    wr.cell? ⟨bo, j, none⟩ = some (.pointer (some ⟨r j, 0, none⟩)) ∧ wr.cell? ⟨bq, j, none⟩ = some (.pointer (some ⟨q j, 0, none⟩)) ∧ wr.frozen? ⟨bo, j, none⟩ = false ∧ wr.frozen? ⟨bq, j, none⟩ = false :=
  ⟨(h.ow.cell j).trans (ptr2_get r hj), (h.rf.cell j).trans (ptr2_get q hj), h.ow.frozen j, h.rf.frozen j⟩
set_option maxRecDepth 100000 in
theorem logsReads_yes {w : World} {mm : Nat} {A : Option Addr} {n c : Nat} (hm : mm ≤ 1048576) (h : OpsIn w A n c) (hT : Tab w) :
    Calls Tryd.prog 3 #[.int .i64 (mm : Int), .slice A n c] w fun e w' => e = .returned (.bool true) ∧ Fr (fun _ => False) w (fun _ => False) w' := by
  have hmx : Tryd.prog.follows .mixedOrders = true := by kernel_rfl
  have N1 := Lib.hid (newReads_b (w := w) hm)
  have hnn : (n : Int) ≤ 9223372036854775807 := by have := h.len; omega
  have hmi : (mm : Int) ≤ 1048576 := by omega
  have hmd : decide ((mm : Int) > 1048576) = false := decide_eq_false (by omega)
  have hm9 := Lib.hid hm
  replace h := Lib.hid h
  replace hT := Lib.hid hT
  clear hm
  go_enter Tryd.func3, Tryd.ntmps3
  go_wp2_with fail
  refine N1.out.mono ?_
  rintro _ w1 ⟨r0, F0, rfl, h0, f0⟩
  have N2 := Lib.hid (newReads_b (w := w1) hm9.out)
  replace h0 := Lib.hid h0
  replace f0 := Lib.hid f0
  clear N1
  go_wp2_with fail
  refine N2.out.mono ?_
  rintro _ w2 ⟨r1, F1, rfl, h1, f1⟩
  replace h1 := Lib.hid h1
  replace f1 := Lib.hid f1
  clear N2
  obtain ⟨w3, hw3⟩ : ∃ u, Hid (u = w2.alloc (.cells #[.pointer (some ⟨r0, 0, none⟩), .pointer (some ⟨r1, 0, none⟩)] 33)) := ⟨_, Lib.hid rfl⟩
  obtain ⟨w4, hw4⟩ : ∃ u, Hid (u = w3.alloc (.cells #[.int .i64 (mm : Int), .slice none 0 0] 36)) := ⟨_, Lib.hid rfl⟩
  obtain ⟨w5, hw5⟩ : ∃ u, Hid (u = w4.alloc (.cells #[.int .i64 (mm : Int), .slice none 0 0] 36)) := ⟨_, Lib.hid rfl⟩
  obtain ⟨w6, hw6⟩ : ∃ u, Hid (u = w5.alloc (.cells #[.pointer (some ⟨w3.heap.size, 0, none⟩), .pointer (some ⟨w3.heap.size + 1, 0, none⟩)] 37)) := ⟨_, Lib.hid rfl⟩
  have hz4 : w4.heap.size = w3.heap.size + 1 := by simp only [hw4.out, World.size_alloc]
  obtain ⟨r, q, X, rfl, rfl, hq0, hq1, HL⟩ := LS.start (w6 := w6) hT.out hm9.out h0.out f0.out h1.out f1.out hw3.out hw4.out hw5.out (by rw [hz4]; exact hw6.out)
  replace hz4 := Lib.hid hz4
  replace HL := Lib.hid HL
  clear h0 f0 h1 f1 hT
  go_wp2_with fail
  refine num_b.mono ?_
  rintro _ u ⟨rfl, rfl⟩
  go_upto_region 8 with (fail)
  rw [← hw3.out]
  go_upto_region 9 with (fail)
  rw [← hw4.out, ← hw5.out, ← hw6.out]
  --LOOP
  have hz5 : w5.heap.size = w3.heap.size + 1 + 1 := by have := hz4.out; simp only [hw5.out, World.size_alloc]; omega
  rw [hz5] at HL
  clear hw3 hw4 hw5 hw6 hz4 hz5 hq0 hq1
  generalize w2.heap.size = bo at *
  generalize w3.heap.size + 1 + 1 = bq at *
  go_wp2
  go_loopw [11] (fun iv wr => ∃ (i : Nat) (r q : Nat → Nat) (X : Nat → Nat → Prop) (l : Nat → List (Int × Int)), i ≤ n ∧ iv = .int .i64 i ∧ Hid (LS w wr bo bq r q mm X l)) (fun iv _ => n - (intOf iv).toNat)
  case atStart => exact ⟨0, r, q, X, _, by omega, rfl, HL⟩
  case round =>
    clear HL
    obtain ⟨i, r, q, X, l, hi, rfl, HL⟩ := hrel
    by_cases hil : i < n
    · obtain ⟨ad, rfl⟩ : ∃ ad, A = some ad := by
        cases A with
        | none => have := (h.out.nil rfl).1; omega
        | some ad => exact ⟨ad, rfl⟩
      obtain ⟨kd, on, a, x, m9, Bv, cs, cb, ⟨a0, a1, a2, a3, a4, a5⟩, hkd, hon, ha, hmm9, hv9, hcs⟩ := h.out.cell ad rfl i hil
      rw [addr_flat (by omega)] at a1 a2 a3 a4 a5
      have a0 := HL.out.fr.keep_cell a0
      have a1 := HL.out.fr.keep_cell a1
      have a2 := HL.out.fr.keep_cell a2
      have a3 := HL.out.fr.keep_cell a3
      have a4 := HL.out.fr.keep_cell a4
      have a5 := HL.out.fr.keep_cell a5
      replace ha := Lib.hid ha
      replace hmm9 := Lib.hid hmm9
      replace hcs := Lib.hid hcs
      have hii : (i : Int) < n := by omega
      obtain ⟨tt, htt⟩ : ∃ tt, on.tmod 2 = tt := ⟨_, rfl⟩
      have tb1 : -1 ≤ tt := by have := Int.lt_tmod_of_pos on (show (0 : Int) < 2 by decide); omega
      have tb2 : tt ≤ 1 := by have := Int.tmod_lt_of_pos on (show (0 : Int) < 2 by decide); omega
      obtain ⟨nn, hnn, hnn2⟩ : ∃ nn : Nat, tt % 2 = (nn : Int) ∧ nn < 2 := ⟨(tt % 2).toNat, by omega, by omega⟩
      have hni : (nn : Int) < 2 := by omega
      obtain ⟨w7, hw7⟩ : ∃ u, Hid (u = wr.alloc (.cells #[.int .i64 kd, .int .i64 on, .int .u64 a, .int .u64 x, .int .i64 m9, .slice Bv cs.length cb] 41)) := ⟨_, Lib.hid rfl⟩
      have HB : Hid (Blk w7 wr.heap.size 41 #[.int .i64 kd, .int .i64 on, .int .u64 a, .int .u64 x, .int .i64 m9, .slice Bv cs.length cb]) := Lib.hid (by rw [hw7.out]; exact Blk.new _ _ _)
      have HS : Hid (LS w w7 bo bq r q mm X l) := Lib.hid (by rw [hw7.out]; exact HL.out.new_ ((Fr.refl (fun _ => False) wr).alloc _))
      have hv0 := Lib.hid hv9
      have hv9 : Hid (Lies w7 (.slice Bv cs.length cb) cs) := Lib.hid (hv9.frz HS.out.fr)
      have hsb : Hid (bo < wr.heap.size ∧ bq < wr.heap.size) := Lib.hid ⟨HL.out.ow.lt, HL.out.rf.lt⟩
      clear hkd hon
      go_upto_region 13 with (fail)
      rw [← hw7.out]
      clear a0 a1 a2 a3 a4 a5 hw7 HL
      generalize wr.heap.size = sb at *
      have g0 : w7.cell? ⟨sb, 0, none⟩ = some (.int .i64 kd) := HB.out.cell 0
      have g1 : w7.cell? ⟨sb, 1, none⟩ = some (.int .i64 on) := HB.out.cell 1
      by_cases k6 : kd = 6
      · subst k6
        obtain ⟨m, hm1, hm2⟩ : ∃ m : Nat, (1 : Int) - (nn : Int) = (m : Int) ∧ m < 2 := ⟨(1 - (nn : Int)).toNat, by omega, by omega⟩
        have hmi2 : (m : Int) < 2 := by omega
        obtain ⟨x1, x2, _, _⟩ := HS.out.cells hm2
        obtain ⟨y1, y2, y3, y4⟩ := HS.out.cells hnn2
        obtain ⟨F, G, hX, hr, hq, hd⟩ := (HS.out.pd m hm2).tb
        have hlm := (HS.out.pd m hm2).hl
        have R1 := Lib.hid (rcopy_b hr (by have := hm9.out; omega))
        have hq9 := Lib.hid hq
        have hsz : Hid ((0 + (l m).length) * 16 ≤ 140737488355328) := Lib.hid (by have := hm9.out; omega)
        clear hX hr hq hd hlm
        go_wp2_with fail
        refine R1.out.mono ?_
        rintro _ w8 ⟨s, G1, rfl, h1, f1⟩
        have e1 : w8.cell? ⟨bo, nn, none⟩ = some (.pointer (some ⟨r nn, 0, none⟩)) := f1.keep_cell y1
        have z1 : w8.frozen? ⟨bo, nn, none⟩ = false := (f1.blk HS.out.ow fun h => h).frozen nn
        have e2 : (w8.setCell ⟨bo, nn, none⟩ (.pointer (some ⟨s, 0, none⟩))).cell? ⟨bq, m, none⟩ = some (.pointer (some ⟨q m, 0, none⟩)) := (((f1.blk HS.out.rf fun h => h).far (p := ⟨bo, nn, none⟩) (HS.out.rf.ne_ HS.out.ow (by decide)) _).cell m).trans (ptr2_get q hm2)
        have hq8 : LgR (w8.setCell ⟨bo, nn, none⟩ (.pointer (some ⟨s, 0, none⟩))) (q m) G mm (l m) := (hq9.out.fr f1 fun _ _ h => h).fr (((Fr.refl (fun b => b = bo) w8).set (p := ⟨bo, nn, none⟩) (.inl rfl) _)) fun b hb e => ((HS.out.off m hm2 b (by
          obtain ⟨F', G', hX, hr', hq', hd'⟩ := (HS.out.pd m hm2).tb
          rw [hX]
          right
          obtain ⟨A1, c1, rfl, hb1, hl1⟩ := hq'
          obtain ⟨A2, c2, rfl, hb2, hl2⟩ := hq9.out
          have ea := hb1.uniq hb2
          obtain ⟨_, ea⟩ := ea
          injection ea with ea
          simp only [List.cons.injEq, Value.slice.injEq] at ea
          obtain ⟨_, ⟨rfl, _, rfl⟩, _⟩ := ea
          exact hb)).2.1) e
        have R2 := Lib.hid (dcopy_b hq8 hsz.out)
        replace h1 := Lib.hid h1
        replace f1 := Lib.hid f1
        have B8 : Hid (Blk (w8.setCell ⟨bo, nn, none⟩ (.pointer (some ⟨s, 0, none⟩))) sb 41 #[.int .i64 6, .int .i64 on, .int .u64 a, .int .u64 x, .int .i64 m9, .slice Bv cs.length cb]) := Lib.hid ((f1.out.blk HB.out fun h => h).far (p := ⟨bo, nn, none⟩) (fun e => by have e9 : sb = bo := e; have := hsb.out.1; omega) _)
        clear R1 hq8 y1 x1 x2
        go_wp2_with fail
        refine R2.out.mono ?_
        rintro _ w9 ⟨s2, G2, rfl, h3, f3⟩
        have e4 : w9.cell? ⟨bq, nn, none⟩ = some (.pointer (some ⟨q nn, 0, none⟩)) := f3.keep_cell ((((f1.out.blk HS.out.rf fun h => h).far (p := ⟨bo, nn, none⟩) (HS.out.rf.ne_ HS.out.ow (by decide)) _).cell nn).trans (ptr2_get q hnn2))
        have z4 : w9.frozen? ⟨bq, nn, none⟩ = false := (f3.blk ((f1.out.blk HS.out.rf fun h => h).far (p := ⟨bo, nn, none⟩) (HS.out.rf.ne_ HS.out.ow (by decide)) _) fun h => h).frozen nn
        have H8 := Lib.hid (HS.out.copied hnn2 hm2 h1.out f1.out h3 f3)
        have B9 : Hid (Blk (w9.setCell ⟨bq, nn, none⟩ (.pointer (some ⟨s2, 0, none⟩))) sb 41 #[.int .i64 6, .int .i64 on, .int .u64 a, .int .u64 x, .int .i64 m9, .slice Bv cs.length cb]) := Lib.hid ((f3.blk B8.out fun h => h).far (p := ⟨bq, nn, none⟩) (fun e => by have e9 : sb = bq := e; have := hsb.out.2; omega) _)
        have v9 : Hid (Lies (w9.setCell ⟨bq, nn, none⟩ (.pointer (some ⟨s2, 0, none⟩))) (.slice Bv cs.length cb) cs) := Lib.hid (hv0.out.frz H8.out.fr)
        clear R2 h1 f1 h3 f3 HS B8 hv9 HB y2 y3 y4 e1 z1 e2 hq9
        go_upto_region 17 with (fail)
        generalize w9.setCell ⟨bq, nn, none⟩ (.pointer (some ⟨s2, 0, none⟩)) = w10 at *
        generalize upd r nn s = r10 at *
        generalize upd q nn s2 = q10 at *
        generalize upd X nn (fun b => G1 b ∨ G2 b) = X10 at *
        generalize upd l nn (l m) = l10 at *
        have HS := H8
        have HB := B9
        have hv9 := v9
        clear H8 B9 v9
        have C9 := Lib.hid (fun k => reads_b (kd := 6) (on := on) (x := x) ((HS.out.drewN k).pd nn hnn2) ha.out hmm9.out (hv9.out.drewN k) hcs.out)
        obtain ⟨y1, y2, _, _⟩ := HS.out.cells hnn2
        have bs := Lib.hid (HB.out)
        have o0 : w10.cell? ⟨sb, 0, none⟩ = some (.int .i64 6) := HB.out.cell 0
        have o1 : w10.cell? ⟨sb, 1, none⟩ = some (.int .i64 on) := HB.out.cell 1
        have o2 : w10.cell? ⟨sb, 2, none⟩ = some (.int .u64 a) := HB.out.cell 2
        have o3 : w10.cell? ⟨sb, 3, none⟩ = some (.int .u64 x) := HB.out.cell 3
        have o4 : w10.cell? ⟨sb, 4, none⟩ = some (.int .i64 m9) := HB.out.cell 4
        have o5 : w10.cell? ⟨sb, 5, none⟩ = some (.slice Bv cs.length cb) := HB.out.cell 5
        clear HB bs hv9
        go_wp2_with fail
        refine wp_region_mixH (fun _ => True) [3, 3, 1, 3, 3, 3, 3, 1, 3, 3, 1, 1, 2, 3, 3] (List.range 15) (by kernel_rfl) (by kernel_rfl) (fun _ _ h => h) trivial ?_
        repeat ((first | refine wpMixH_pure rfl rfl (fun K hK => ?_) | refine wpMixH_loc rfl rfl (fun K hK => ?_) | refine wpMixH_any rfl rfl (fun K hK => ?_)); go_simp; refine hK _ _ ?_; clear hK K)
        refine wpMixH_loud rfl rfl (fun m1 K hK => ?_)
        go_wp2_with fail
        refine (C9.out _).mono ?_
        rintro _ w9 ⟨rfl, X9, l9, p9, f9⟩
        have H9 := Lib.hid ((HS.out.drewN (1 + m1)).step hnn2 f9 p9)
        clear C9 p9 f9 HS o0 o1 o2 o3 o4 o5 y1 y2
        go_wp2_with fail
        refine hK _ _ (fun h => (Bool.false_ne_true ((Eq.symm (by kernel_rfl)).trans h)).elim) ?_; clear hK K
        repeat ((first | refine wpMixH_pure rfl rfl (fun K hK => ?_) | refine wpMixH_loc rfl rfl (fun K hK => ?_) | refine wpMixH_any rfl rfl (fun K hK => ?_)); go_simp; refine hK _ _ ?_; clear hK K)
        refine wpMixH_nil (fun m2 => ?_)
        go_wp2
        go_roundw
        case rel => exact ⟨i + 1, _, _, _, _, by omega, by simp, Lib.hid (H9.out.drewN m2)⟩
        case measure => simp [intOf]; omega
      · have hk6 : (kd == 6) = false := by simpa using k6
        clear k6
        go_upto_region 17 with (fail)
        have C9 := Lib.hid (fun k => reads_b (kd := kd) (on := on) (x := x) ((HS.out.drewN k).pd nn hnn2) ha.out hmm9.out (hv9.out.drewN k) hcs.out)
        obtain ⟨y1, y2, _, _⟩ := HS.out.cells hnn2
        have bs := Lib.hid (HB.out)
        have o0 : w7.cell? ⟨sb, 0, none⟩ = some (.int .i64 kd) := HB.out.cell 0
        have o1 : w7.cell? ⟨sb, 1, none⟩ = some (.int .i64 on) := HB.out.cell 1
        have o2 : w7.cell? ⟨sb, 2, none⟩ = some (.int .u64 a) := HB.out.cell 2
        have o3 : w7.cell? ⟨sb, 3, none⟩ = some (.int .u64 x) := HB.out.cell 3
        have o4 : w7.cell? ⟨sb, 4, none⟩ = some (.int .i64 m9) := HB.out.cell 4
        have o5 : w7.cell? ⟨sb, 5, none⟩ = some (.slice Bv cs.length cb) := HB.out.cell 5
        clear HB bs hv9
        go_wp2_with fail
        refine wp_region_mixH (fun _ => True) [3, 3, 1, 3, 3, 3, 3, 1, 3, 3, 1, 1, 2, 3, 3] (List.range 15) (by kernel_rfl) (by kernel_rfl) (fun _ _ h => h) trivial ?_
        repeat ((first | refine wpMixH_pure rfl rfl (fun K hK => ?_) | refine wpMixH_loc rfl rfl (fun K hK => ?_) | refine wpMixH_any rfl rfl (fun K hK => ?_)); go_simp; refine hK _ _ ?_; clear hK K)
        refine wpMixH_loud rfl rfl (fun m1 K hK => ?_)
        go_wp2_with fail
        refine (C9.out _).mono ?_
        rintro _ w9 ⟨rfl, X9, l9, p9, f9⟩
        have H9 := Lib.hid ((HS.out.drewN (1 + m1)).step hnn2 f9 p9)
        clear C9 p9 f9 HS o0 o1 o2 o3 o4 o5 y1 y2
        go_wp2_with fail
        refine hK _ _ (fun h => (Bool.false_ne_true ((Eq.symm (by kernel_rfl)).trans h)).elim) ?_; clear hK K
        repeat ((first | refine wpMixH_pure rfl rfl (fun K hK => ?_) | refine wpMixH_loc rfl rfl (fun K hK => ?_) | refine wpMixH_any rfl rfl (fun K hK => ?_)); go_simp; refine hK _ _ ?_; clear hK K)
        refine wpMixH_nil (fun m2 => ?_)
        go_wp2
        go_roundw
        case rel => exact ⟨i + 1, _, _, _, _, by omega, by simp, Lib.hid (H9.out.drewN m2)⟩
        case measure => simp [intOf]; omega
    · obtain rfl : i = n := by omega
      clear h
      obtain ⟨x01, x02, _, _⟩ := HL.out.cells (j := 0) (by decide)
      obtain ⟨x11, x12, _, _⟩ := HL.out.cells (j := 1) (by decide)
      obtain ⟨A0, c0, hL0, d0, _⟩ := (HL.out.pd 0 (by decide)).slice
      obtain ⟨A1, c1, hL1, d1, _⟩ := (HL.out.pd 1 (by decide)).slice
      have hb0 : (l 0).length ≤ 4611686018427387904 := by have := (HL.out.pd 0 (by decide)).hm; have := (HL.out.pd 0 (by decide)).hl; omega
      have hb1 : (l 1).length ≤ 4611686018427387904 := by have := (HL.out.pd 1 (by decide)).hm; have := (HL.out.pd 1 (by decide)).hl; omega
      replace hL0 := Lib.hid hL0
      replace hL1 := Lib.hid hL1
      have C1 := Lib.hid (fun k => ((HL.out.drewN k).pd 0 (by decide)).all_b)
      go_wp2_with fail
      refine wp_region_mixH (fun W => (W.cell? ⟨bq, 0, none⟩ = some (.pointer (some ⟨q 0, 0, none⟩)) ∧ W.cell? ⟨q 0, 1, none⟩ = some (.slice A0 (l 0).length c0)) ∧ W.cell? ⟨bq, 1, none⟩ = some (.pointer (some ⟨q 1, 0, none⟩)) ∧ W.cell? ⟨q 1, 1, none⟩ = some (.slice A1 (l 1).length c1)) [3, 1, 2, 3, 0, 3, 3, 0, 2, 3, 3, 1, 2, 3, 0, 3, 3, 0, 2, 3, 3, 2, 3, 3, 2, 2, 2, 3, 3, 2, 3, 3] [0, 1, 3, 4, 5, 6, 7, 2, 8, 9, 10, 11, 13, 14, 15, 16, 17, 12, 18, 19, 20, 21, 22, 23, 24, 25, 26, 27, 28, 29, 30, 31] (by kernel_rfl) (by kernel_rfl) (fun _ _ h => h) ⟨⟨x02, d0⟩, x12, d1⟩ ?_
      repeat (first | ((first | refine wpMixH_pure rfl rfl (fun K hK => ?_) | refine wpMixH_loc rfl rfl (fun K hK => ?_) | refine wpMixH_any rfl rfl (fun K hK => ?_)); go_simp; refine hK _ _ ?_; clear hK K) | (refine wpMixH_any rfl rfl (fun K hK => ?_); rw [if_pos (by go_simp)]; apply Exists.intro; refine And.intro (fun w2 hS2 => ?_) (hK _ _ ?_); (focus (obtain ⟨⟨hs1, hs2⟩, hs3, hs4⟩ := hS2; go_simp; rfl)); clear hK K))
      refine wpMixH_loud rfl rfl (fun m1 K hK => ?_)
      go_wp2_with fail
      refine (C1.out _).mono ?_
      rintro _ v1 ⟨b1, rfl, S1, _, f1⟩
      have H1 := Lib.hid ((HL.out.drewN (1 + m1)).new_ f1)
      have L10 : Hid (Cl v1 (.slice A0 (l 0).length c0) (l 0)) := Lib.hid (Sl.fr (Sl.drewN hL0.out (1 + m1)) f1 fun _ _ h => h)
      have L11 : Hid (Cl v1 (.slice A1 (l 1).length c1) (l 1)) := Lib.hid (Sl.fr (Sl.drewN hL1.out (1 + m1)) f1 fun _ _ h => h)
      obtain ⟨x01, x02, _, _⟩ := H1.out.cells (j := 0) (by decide)
      obtain ⟨x11, x12, _, _⟩ := H1.out.cells (j := 1) (by decide)
      have d0 := f1.keep_cell (p := ⟨q 0, 1, none⟩) d0
      have d1 := f1.keep_cell (p := ⟨q 1, 1, none⟩) d1
      have C2 := Lib.hid (fun k => walk_b (n := 0) S1 (below_drewNs (Below.refl _ v1) k) (Cl.lies (Sl.drewN L10.out k)) hb0)
      clear C1 S1 HL hL0 hL1 f1
      go_wp2_with fail
      refine hK _ _ (fun _ => ⟨⟨x02, d0⟩, x12, d1⟩) ?_; clear hK K
      repeat (first | ((first | refine wpMixH_pure rfl rfl (fun K hK => ?_) | refine wpMixH_loc rfl rfl (fun K hK => ?_) | refine wpMixH_any rfl rfl (fun K hK => ?_)); go_simp; refine hK _ _ ?_; clear hK K) | (refine wpMixH_any rfl rfl (fun K hK => ?_); rw [if_pos (by go_simp)]; apply Exists.intro; refine And.intro (fun w2 hS2 => ?_) (hK _ _ ?_); (focus (obtain ⟨⟨hs1, hs2⟩, hs3, hs4⟩ := hS2; go_simp; rfl)); clear hK K))
      refine wpMixH_loud rfl rfl (fun m2 K hK => ?_)
      go_wp2_with fail
      refine (C2.out _).mono ?_
      rintro _ v2 ⟨rfl, f2⟩
      have H2 := Lib.hid ((H1.out.drewN m2).new_ f2)
      have L21 : Hid (Cl v2 (.slice A1 (l 1).length c1) (l 1)) := Lib.hid (Sl.fr (Sl.drewN L11.out m2) f2 fun _ _ h => h)
      obtain ⟨x01, x02, _, _⟩ := H2.out.cells (j := 0) (by decide)
      obtain ⟨x11, x12, _, _⟩ := H2.out.cells (j := 1) (by decide)
      have d0 := f2.keep_cell (p := ⟨q 0, 1, none⟩) d0
      have d1 := f2.keep_cell (p := ⟨q 1, 1, none⟩) d1
      have C3 := Lib.hid (fun k => ((H2.out.drewN k).pd 1 (by decide)).all_b)
      clear C2 H1 L10 L11 f2
      go_wp2_with fail
      refine hK _ _ (fun _ => ⟨⟨x02, d0⟩, x12, d1⟩) ?_; clear hK K
      repeat (first | ((first | refine wpMixH_pure rfl rfl (fun K hK => ?_) | refine wpMixH_loc rfl rfl (fun K hK => ?_) | refine wpMixH_any rfl rfl (fun K hK => ?_)); go_simp; refine hK _ _ ?_; clear hK K) | (refine wpMixH_any rfl rfl (fun K hK => ?_); rw [if_pos (by go_simp)]; apply Exists.intro; refine And.intro (fun w2 hS2 => ?_) (hK _ _ ?_); (focus (obtain ⟨⟨hs1, hs2⟩, hs3, hs4⟩ := hS2; go_simp; rfl)); clear hK K))
      refine wpMixH_loud rfl rfl (fun m3 K hK => ?_)
      go_wp2_with fail
      refine (C3.out _).mono ?_
      rintro _ v3 ⟨b3, rfl, S3, _, f3⟩
      have H3 := Lib.hid ((H2.out.drewN m3).new_ f3)
      have L31 : Hid (Cl v3 (.slice A1 (l 1).length c1) (l 1)) := Lib.hid (Sl.fr (Sl.drewN L21.out m3) f3 fun _ _ h => h)
      obtain ⟨x01, x02, _, _⟩ := H3.out.cells (j := 0) (by decide)
      obtain ⟨x11, x12, _, _⟩ := H3.out.cells (j := 1) (by decide)
      have d0 := f3.keep_cell (p := ⟨q 0, 1, none⟩) d0
      have d1 := f3.keep_cell (p := ⟨q 1, 1, none⟩) d1
      have C4 := Lib.hid (fun k => walk_b (n := 0) S3 (below_drewNs (Below.refl _ v3) k) (Cl.lies (Sl.drewN L31.out k)) hb1)
      clear C3 H2 L21 S3 f3
      go_wp2_with fail
      refine hK _ _ (fun _ => ⟨⟨x02, d0⟩, x12, d1⟩) ?_; clear hK K
      repeat (first | ((first | refine wpMixH_pure rfl rfl (fun K hK => ?_) | refine wpMixH_loc rfl rfl (fun K hK => ?_) | refine wpMixH_any rfl rfl (fun K hK => ?_)); go_simp; refine hK _ _ ?_; clear hK K) | (refine wpMixH_any rfl rfl (fun K hK => ?_); rw [if_pos (by go_simp)]; apply Exists.intro; refine And.intro (fun w2 hS2 => ?_) (hK _ _ ?_); (focus (obtain ⟨⟨hs1, hs2⟩, hs3, hs4⟩ := hS2; go_simp; rfl)); clear hK K))
      refine wpMixH_loud rfl rfl (fun m4 K hK => ?_)
      go_wp2_with fail
      refine (C4.out _).mono ?_
      rintro _ v4 ⟨rfl, f4⟩
      have H4 := Lib.hid ((H3.out.drewN m4).new_ f4)
      clear C4 H3 L31 f4 x01 x02 x11 x12 d0 d1
      go_wp2_with fail
      refine hK _ _ (fun h => (Bool.false_ne_true ((Eq.symm (by kernel_rfl)).trans h)).elim) ?_; clear hK K
      repeat ((first | refine wpMixH_pure rfl rfl (fun K hK => ?_) | refine wpMixH_loc rfl rfl (fun K hK => ?_) | refine wpMixH_any rfl rfl (fun K hK => ?_)); go_simp; refine hK _ _ ?_; clear hK K)
      refine wpMixH_loud rfl rfl (fun m5 K hK => ?_)
      go_wp2_with fail
      refine (noReads_b (p := none) (.inl rfl)).mono ?_
      rintro _ v5 ⟨rfl, f5⟩
      have H5 := Lib.hid ((H4.out.drewN m5).new_ f5)
      clear H4 f5
      go_wp2_with fail
      refine hK _ _ (fun h => (Bool.false_ne_true ((Eq.symm (by kernel_rfl)).trans h)).elim) ?_; clear hK K
      repeat ((first | refine wpMixH_pure rfl rfl (fun K hK => ?_) | refine wpMixH_loc rfl rfl (fun K hK => ?_) | refine wpMixH_any rfl rfl (fun K hK => ?_)); go_simp; refine hK _ _ ?_; clear hK K)
      refine wpMixH_loud rfl rfl (fun m6 K hK => ?_)
      go_wp2_with fail
      refine hK _ _ (fun h => (Bool.false_ne_true ((Eq.symm (by kernel_rfl)).trans h)).elim) ?_; clear hK K
      repeat ((first | refine wpMixH_pure rfl rfl (fun K hK => ?_) | refine wpMixH_loc rfl rfl (fun K hK => ?_) | refine wpMixH_any rfl rfl (fun K hK => ?_)); go_simp; refine hK _ _ ?_; clear hK K)
      refine wpMixH_loud rfl rfl (fun m7 K hK => ?_)
      go_wp2_with fail
      refine hK _ _ (fun h => (Bool.false_ne_true ((Eq.symm (by kernel_rfl)).trans h)).elim) ?_; clear hK K
      repeat ((first | refine wpMixH_pure rfl rfl (fun K hK => ?_) | refine wpMixH_loc rfl rfl (fun K hK => ?_) | refine wpMixH_any rfl rfl (fun K hK => ?_)); go_simp; refine hK _ _ ?_; clear hK K)
      refine wpMixH_loud rfl rfl (fun m8 K hK => ?_)
      have M6 := Lib.hid (noReads_b (w := ((v5.drewN (m6 + m7)).alloc (.cells #[.bool false, .int .i64 0, .slice none 0 0] 31)).drewN m8) (p := some ⟨v5.heap.size, 0, none⟩) (.inr ⟨_, rfl, (Blk.new (v5.drewN (m6 + m7)) _ _).drewN m8⟩))
      have H6 := Lib.hid (((H5.out.drewN (m6 + m7)).new_ ((Fr.refl (fun _ => False) (v5.drewN (m6 + m7))).alloc (.cells #[.bool false, .int .i64 0, .slice none 0 0] 31))).drewN m8)
      clear H5
      go_wp2_with fail
      refine M6.out.mono ?_
      rintro _ v6 ⟨rfl, f6⟩
      have H7 := Lib.hid (H6.out.new_ f6)
      have W7 := Lib.hid (fun k => works_b (H7.out.drewN k |>.tab.frs (H7.out.drewN k).fr fun h => h))
      clear M6 H6 f6
      go_wp2_with fail
      refine hK _ _ (fun h => (Bool.false_ne_true ((Eq.symm (by kernel_rfl)).trans h)).elim) ?_; clear hK K
      repeat ((first | refine wpMixH_pure rfl rfl (fun K hK => ?_) | refine wpMixH_loc rfl rfl (fun K hK => ?_) | refine wpMixH_any rfl rfl (fun K hK => ?_)); go_simp; refine hK _ _ ?_; clear hK K)
      refine wpMixH_loud rfl rfl (fun m9 K hK => ?_)
      go_wp2_with fail
      refine (W7.out _).mono ?_
      rintro _ v7 ⟨rfl, f7⟩
      have F8 := Lib.hid ((H7.out.drewN m9).fr.trans f7)
      clear W7 H7 f7
      go_wp2_with fail
      refine hK _ _ (fun h => (Bool.false_ne_true ((Eq.symm (by kernel_rfl)).trans h)).elim) ?_; clear hK K
      repeat ((first | refine wpMixH_pure rfl rfl (fun K hK => ?_) | refine wpMixH_loc rfl rfl (fun K hK => ?_) | refine wpMixH_any rfl rfl (fun K hK => ?_)); go_simp; refine hK _ _ ?_; clear hK K)
      refine wpMixH_nil (fun m10 => ?_)
      go_wp2
      go_ret
      exact ⟨rfl, F8.out.drewN m10⟩
end Go.Proofs.YtfhpnlaabgkpjaaDoor
/- LogsReads: the law's walk, whatever the number. -/
namespace Go.Proofs.YtfhpnlaabgkpjaaDoor
open Go.RowKit
theorem logsReads_walk {W : World} (most : Int) (hm : (Lit.int .i64 most).wf = true) {A : Option Addr} {n c : Nat} (h : OpsIn W A n c) (hT : Tab W) :
    Calls Tryd.prog 3 #[.int .i64 most, .slice A n c] W fun e w' => e = .returned (.bool true) ∧ Fr (fun _ => False) W (fun _ => False) w' := by
  obtain ⟨h1, h2⟩ := bd_i64 hm
  by_cases hr : 0 ≤ most ∧ most ≤ 1048576
  · obtain ⟨mm, rfl⟩ : ∃ mm : Nat, most = (mm : Int) := ⟨most.toNat, by omega⟩
    exact logsReads_yes (by omega) h hT
  · exact logsReads_no (by omega) h1 h2 hT
end Go.Proofs.YtfhpnlaabgkpjaaDoor
/- The steps that come in, opened. -/
namespace Go.Proofs.YtfhpnlaabgkpjaaDoor
open Go.ChangeShapes Go.WideShapes Go.RowKit Go.Deep
set_option linter.unusedVariables false
theorem WordsIn.liesOf {w : World} {A : Option Addr} {l : List Int} {c : Nat} (h : WordsIn w A l c) : Lies w (.slice A l.length c) l := h.lies
theorem open_ops {H : Type} {enc : TypeId × Value → H} {w : World} {base : Nat} {spare : Nat → Bool} {held : Bool} {ts : List TypeId} {ds : List (DataW H)} {j : Nat} {A : Option Addr} {len cap : Nat} {d : DataW H} {p : List MemPlace}
    (hsz : (DataW.weightsEach Tryd.prog ts ds).all (· ≤ reachBytes) = true) (hj : ts[j]? = some 22) (hd : ds[j]? = some d)
    (h : DataW.Trod enc Tryd.prog w base spare held 22 (.slice A len cap) d p) : OpsIn w A len cap := by
  obtain ⟨h1, h2, h3⟩ := open_fields hsz hj hd Tryd.underlying22 Tryd.underlying41 (by kernel_rfl) (by kernel_rfl) h
  have hb : Tryd.prog.bytesOf 41 = 64 := by kernel_rfl
  rw [hb] at h2
  refine ⟨h1, h2, fun ad e i hi => ?_⟩
  have q := h3 ad e i hi
  obtain ⟨v0, y0, n0, c0, t0, _⟩ := q 0 _ rfl
  obtain ⟨v1, y1, n1, c1, t1, _⟩ := q 1 _ rfl
  obtain ⟨v2, y2, n2, c2, t2, _⟩ := q 2 _ rfl
  obtain ⟨v3, y3, n3, c3, t3, _⟩ := q 3 _ rfl
  obtain ⟨v4, y4, n4, c4, t4, _⟩ := q 4 _ rfl
  obtain ⟨v5, y5, n5, c5, t5, b5⟩ := q 5 _ rfl
  obtain ⟨kd, rfl, w0⟩ := int_field Tryd.underlying3 t0
  obtain ⟨on, rfl, w1⟩ := int_field Tryd.underlying3 t1
  obtain ⟨a, rfl, w2⟩ := int_field Tryd.underlying38 t2
  obtain ⟨x, rfl, w3⟩ := int_field Tryd.underlying38 t3
  obtain ⟨m, rfl, w4⟩ := int_field Tryd.underlying3 t4
  obtain ⟨B, cs, cb, rfl, hW⟩ := words_field Tryd.underlying39 Tryd.underlying38 (by kernel_rfl) (by kernel_rfl) t5 b5
  exact ⟨kd, on, a, x, m, B, cs, cb, ⟨c0, c1, c2, c3, c4, c5⟩, bd_i64 w0, bd_i64 w1, bd_u64 w2, bd_i64 w4, hW.lies, hW.len⟩
end Go.Proofs.YtfhpnlaabgkpjaaDoor
/- LogsReads: its statement out of its walk, and its card. -/
namespace Go.Proofs.YtfhpnlaabgkpjaaDoor.logsReads
open Go.ChangeShapes Go.WideShapes Go.ChangeAt Go.WideMaps Go.WideElems Go.RowKit Go.Deep
set_option linter.unusedVariables false
theorem own : ownKnob Tryd.prog.godebug = none := by kernel_rfl
theorem laidOut : laidOutB Tryd.prog = true := by kernel_rfl
theorem g32 : Tryd.prog.globalNamed "math/bits.deBruijn32tab" = some 0 := by kernel_rfl
theorem g64 : Tryd.prog.globalNamed "math/bits.deBruijn64tab" = some 1 := by kernel_rfl
theorem t64 : (Tryd.prog.globals[1]?).map (·.type) = some 115 := by kernel_rfl
theorem door_met (os : Os) (args : Array Value) : laidMetH Tryd.prog Rows.logsReadsRow.laid ((World.doorLaid Tryd.prog 400 os).forCall (fun _ _ => 0) ⟨#[], args, []⟩).memory :=
  laidMetH_of_parts3 (fuel := 8) (laidMet_of_run' 8 (by kernel_rfl) (by kernel_rfl)) (by kernel_rfl) (by kernel_rfl)
theorem of_laid {W : World} (h : laidMetH Tryd.prog Rows.logsReadsRow.laid W) : Tab W := by
  rw [MakeChecks.laidMetH_plain _ _ _ (by kernel_rfl)] at h
  obtain ⟨ps, ⟨g0, t0, cs0, f0, p0, q0, hg0, ht0, hv0, hd0, ⟨g1, t1, cs1, f1, p1, q1, hg1, ht1, hv1, hd1, _, _⟩, _⟩, _, _⟩ := h
  obtain rfl := Option.some.inj (g64.symm.trans hg1)
  obtain rfl := Option.some.inj (t64.symm.trans ht1)
  obtain ⟨xs, m1, rfl, hx1, hlen, hn3, hel⟩ := DataW.trod_array Tryd.underlying115 hd1
  have c1 : Tryd.prog.cellsOf 5 = 1 := by kernel_rfl
  rw [c1] at hel
  have hL : (Rows.laid_math_bits_deBruijn64tab : DataW Unit) = .agg (Lib.deBruijn64tab.map fun (n : Nat) => .lit (.int .u8 (n : Int))) := by kernel_rfl
  rw [hL] at hx1
  simp only [Prod.mk.injEq, DataW.agg.injEq] at hx1
  have hx := hx1.1
  have hT64 : Lib.deBruijn64tab.length = 64 := by decide
  intro i hi
  rw [hT64] at hi
  have hxi := congrArg (fun l => l[i]?) hx
  simp only [List.getElem?_map] at hxi
  have h1 := hel i hi
  obtain ⟨x, hxx⟩ : ∃ x, xs[i]? = some x := ⟨xs[i]'(by omega), List.getElem?_eq_getElem (by omega)⟩
  obtain ⟨n, hn⟩ : ∃ n, Lib.deBruijn64tab[i]? = some n := ⟨Lib.deBruijn64tab[i]'(by omega), List.getElem?_eq_getElem (by omega)⟩
  rw [hxx, hn] at hxi
  simp only [Option.map_some, Option.some.injEq] at hxi
  rw [hxx] at h1
  obtain ⟨k, e1, e2, _⟩ := DataW.trod_int (k := .u8) Tryd.underlying5 h1
  have hk : k = (n : Int) := by rw [e2] at hxi; simpa using hxi.symm
  have hcell := World.var?_cell hg1 hv1 i
  rw [hcell, List.getD_eq_getElem?_getD, hn]
  rw [Nat.mul_one] at e1
  have hg : cs1.toList[i]? = some (.int .u8 k) := by
    have := congrArg (fun l => l[0]?) e1
    simpa using this
  rw [← Array.getElem?_toList, hg, hk]
  rfl
set_option maxRecDepth 100000 in
theorem lifted (os : Os) (started : os.Started) (H : Type) (enc : TypeId × Value → H) :
    ReturnsInHanded {} Tryd.checked os 3 .any (fun w args => (Rows.logsReadsSpec.pre enc Tryd.prog Tryd.f3 [] false w args ∧ laidMetH Tryd.prog Rows.logsReadsRow.laid w) ∧ sizedMet enc Tryd.prog Tryd.f3 (OpenSpec.ofChange Rows.logsReadsSpec) false w args)
      (Rows.logsReadsSpec.post enc Tryd.prog Tryd.f3 false true false false) := by
  refine returnsInHanded_of_change_and (C := Tryd.checked) (X := fun w _ => laidMetH Tryd.prog Rows.logsReadsRow.laid w) (fun _ _ _ hh h => h.of_heap hh) own started (by kernel_rfl) Tryd.func3
    (ChangeSpec.witness_shaped (enc := enc) (C := Tryd.checked) (os := os) (X := fun w _ => laidMetH Tryd.prog Rows.logsReadsRow.laid w) false (World.doorLaid Tryd.prog 400 os) #[.int .i64 0, .slice none 0 0] 8 rfl (World.shaped_of_RefB (by kernel_rfl) (by kernel_rfl)) (by kernel_rfl) (by kernel_rfl) (by kernel_rfl) (door_met os _)) ?_
  intro W base args ds gs before hval0 hW _ hsz0 hL _
  have hval : ∀ (j : Nat) t v, Tryd.f3.params[j]? = some t → args[j]? = some v → Value.okWide Tryd.prog W .any base t v := hval0
  have hsz : (DataW.weightsEach Tryd.prog (Tryd.f3.params.toList ++ Rows.logsReadsSpec.plain.varTypes Tryd.prog) (ds ++ gs)).all (· ≤ reachBytes) = true := hsz0
  have hW' := hW
  obtain ⟨p, q, hA0, hV, rfl, hfz, hnd⟩ := hW
  have hA : DataW.TrodAll enc Tryd.prog W 0 (fun _ => true) true Tryd.f3.params.toList args.toList ds p := hA0
  rw [Tryd.params3] at hA hval hsz
  obtain ⟨v0, vs0, d0, ds0, p0, q0, hargs, rfl, rfl, h0, r0⟩ := trodAll_cons hA
  obtain ⟨v1, vs1, d1, ds1, p1, q1, rfl, rfl, rfl, h1, r1⟩ := trodAll_cons r0
  obtain ⟨rfl, rfl, rfl⟩ := trodAll_nil r1
  obtain rfl : args = #[v0, v1] := by cases args; simp_all
  obtain ⟨rfl, rfl⟩ := trodVars_none hV
  obtain ⟨a0, rfl, rfl, rfl, w0⟩ := open_int Tryd.underlying3 (hval 0 3 v0 rfl rfl) h0
  obtain ⟨a1, len1, cap1, rfl⟩ := okWide_slice Tryd.underlying22 (hval 1 22 v1 rfl rfl)
  have k1 := h1
  have lt1 : ∀ x ∈ p1, x.block < W.heap.size := by obtain ⟨m, hm⟩ := k1; exact DataW.trod_lt m _ _ _ hm
  have w1 := open_ops hsz (j := 1) rfl rfl h1
  clear hA0 hval0 hsz0
  simp only [List.append_nil] at hW'
  have hT := of_laid hL
  refine (logsReads_walk a0 w0 w1 hT).mono fun e W' ⟨he, fr⟩ => ?_
  have bel : Below W.heap.size W W' := fr.below (fun _ h => h.elim) (Nat.le_refl _)
  subst he
  exact ⟨_, rfl, _, _, _, [], _, [], hW', trodAll_mk1 (shut_bool Tryd.underlying4 _), (trodAll_cons_mk (shut_int Tryd.underlying3 w0) (trodAll_cons_mk (Below.trod laidOut (by kernel_rfl) (of_decide_eq_true (by kernel_rfl)) k1 bel lt1) trodAll_mk0)), rfl, bel.frame _, fun h => by cases h⟩
theorem proved0 : Rows.LogsReadsSaid :=
  OpenClaim.holds_of_wide 3 Tryd.f3 rfl rfl rfl rfl rfl rfl rfl ⟨rfl, rfl, rfl, rfl, rfl⟩ rfl rfl rfl rfl rfl (by kernel_rfl) Tryd.func3 (by kernel_rfl)
    (of_decide_eq_true (by kernel_rfl)) (by unfold Func.isWrapper; first | (rw [if_pos (by decide +kernel)]; kernel_rfl) | (rw [if_neg (by decide +kernel)]; exact ⟨rfl, rfl⟩))
    (fun os started H enc _ => lifted os started H enc)
theorem proved : Rows.LogsReadsCardSaid :=
  Claim7.holds_tied_plain_at .later [] [.data, .data] true Rows.logsReadsCard.stood.harness false
    proved0 (fun _ h => by cases h) (by kernel_rfl) (fun _ h => by cases h) logsReads_row_tie rfl ⟨rfl, rfl⟩ (by kernel_rfl) rfl
    (fun f fn hf hfn => by
      obtain rfl : f = 3 := Option.some.inj ((show Tryd.prog.funcNamed "parley/parleylaw05.LogsReads" = some 3 by kernel_rfl).symm.trans hf) |>.symm
      obtain rfl : fn = Tryd.f3 := (Option.some.inj (Tryd.func3.symm.trans hfn)).symm
      exact ⟨by kernel_rfl, fun j t ht => by
        rw [Tryd.params3] at ht
        rcases j with _ | j
        · obtain rfl : t = 3 := by simpa using ht.symm
          exact (show Tryd.prog.wantsStandIn 3 = false by kernel_rfl)
        · skip
          rcases j with _ | j
          · obtain rfl : t = 22 := by simpa using ht.symm
            exact (show Tryd.prog.wantsStandIn 22 = false by kernel_rfl)
          · simp at ht⟩)
    (by kernel_rfl)
end Go.Proofs.YtfhpnlaabgkpjaaDoor.logsReads
