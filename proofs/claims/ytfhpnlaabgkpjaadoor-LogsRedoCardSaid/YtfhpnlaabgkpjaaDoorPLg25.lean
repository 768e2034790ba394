/- LogsRedo: the law's walk, the logs made. -/
import Derived.ProofKit
import Derived.LaidMore
import Derived.OpenShut
import Derived.Stop.Joined
import Derived.Test.YtfhpnlaabgkpjaaDoorTie
import Derived.Test.YtfhpnlaabgkpjaaDoorCards
import Derived.Test.YtfhpnlaabgkpjaaDoorPLg15
import Derived.Test.YtfhpnlaabgkpjaaDoorPLg24
namespace Go.Proofs.YtfhpnlaabgkpjaaDoor
open Go.RowKit Go.Shelf
set_option maxHeartbeats 16000000
set_option linter.unusedVariables false
set_option linter.unusedSimpArgs false

set_option maxRecDepth 100000 in
theorem logsRedo_yes {w : World} {mm : Nat} {A : Option Addr} {n c : Nat} (hm : mm ≤ 1048576) (h : OpsIn w A n c) (hT : Tab w) :
    Calls Tryd.prog 5 #[.int .i64 (mm : Int), .slice A n c] w fun e w' => e = .returned (.bool true) ∧ Fr (fun _ => False) w (fun _ => False) w' := by
  have hmx : Tryd.prog.follows .mixedOrders = true := by kernel_rfl
  have N1 := Lib.hid (newRedo_b (w := w) hm)
  have hnn : (n : Int) ≤ 9223372036854775807 := by have := h.len; omega
  have hn41 : Hid (n ≤ 2199023255552) := Lib.hid (by have := h.len; omega)
  have hmi : (mm : Int) ≤ 1048576 := by omega
  have hmd : decide ((mm : Int) > 1048576) = false := decide_eq_false (by omega)
  have hm9 := Lib.hid hm
  replace h := Lib.hid h
  replace hT := Lib.hid hT
  clear hm
  go_enter Tryd.func5, Tryd.ntmps5
  go_wp2_with fail
  refine N1.out.mono ?_
  rintro _ w1 ⟨r0, F0, rfl, h0, f0⟩
  have N2 := Lib.hid (newRedo_b (w := w1) hm9.out)
  replace h0 := Lib.hid h0
  replace f0 := Lib.hid f0
  clear N1
  go_wp2_with fail
  refine N2.out.mono ?_
  rintro _ w2 ⟨r1, F1, rfl, h1, f1⟩
  replace h1 := Lib.hid h1
  replace f1 := Lib.hid f1
  clear N2
  obtain ⟨w3, hw3⟩ : ∃ u, Hid (u = w2.alloc (.cells #[.pointer (some ⟨r0, 0, none⟩), .pointer (some ⟨r1, 0, none⟩)] 71)) := ⟨_, Lib.hid rfl⟩
  obtain ⟨w4, hw4⟩ : ∃ u, Hid (u = w3.alloc (.cells #[.int .i64 (mm : Int), .slice none 0 0] 36)) := ⟨_, Lib.hid rfl⟩
  obtain ⟨w5, hw5⟩ : ∃ u, Hid (u = w4.alloc (.cells #[.int .i64 (mm : Int), .slice none 0 0] 36)) := ⟨_, Lib.hid rfl⟩
  obtain ⟨w6, hw6⟩ : ∃ u, Hid (u = w5.alloc (.cells #[.pointer (some ⟨w3.heap.size, 0, none⟩), .pointer (some ⟨w3.heap.size + 1, 0, none⟩)] 37)) := ⟨_, Lib.hid rfl⟩
  have hz4 : w4.heap.size = w3.heap.size + 1 := by simp only [hw4.out, World.size_alloc]
  obtain ⟨r, q, X, rfl, rfl, hq0, hq1, HL⟩ := LR.start (w6 := w6) hT.out hm9.out h0.out f0.out h1.out f1.out hw3.out hw4.out hw5.out (by rw [hz4]; exact hw6.out)
  replace hz4 := Lib.hid hz4
  replace HL := Lib.hid HL
  clear h0 f0 h1 f1 hT
  go_wp2_with fail
  refine num_b.mono ?_
  rintro _ u ⟨rfl, rfl⟩
  go_upto_region 8 with (fail)
  rw [← hw3.out]
  go_upto_region 9 with (fail)
  rw [← hw4.out, ← hw5.out, ← hw6.out]
  have hz5 : w5.heap.size = w3.heap.size + 1 + 1 := by have := hz4.out; simp only [hw5.out, World.size_alloc]; omega
  rw [hz5] at HL
  clear hw3 hw4 hw5 hw6 hz4 hz5 hq0 hq1
  generalize w2.heap.size = bo at *
  generalize w3.heap.size + 1 + 1 = bq at *
  have HL : Hid (LT w w6 bo bq r q mm X (fun _ => []) 0 0 (.slice none 0 0) [] (fun _ => []) (fun _ => False)) := Lib.hid ⟨HL.out, Td.nil _, fun _ h => h.elim, fun j _ => Nat.le_refl _, Nat.le_refl _⟩
  go_wp2
  go_loopw [11, 12] (fun tvv iv wr => ∃ (i : Nat) (r q : Nat → Nat) (X : Nat → Nat → Prop) (l : Nat → List (Int × Int)) (A2 : Option Addr) (n2 c2 : Nat) (tv : List (Option Addr × Nat × Nat)) (L : Nat → List Int) (Y : Nat → Prop), i ≤ n ∧ iv = .int .i64 i ∧ tvv = .slice A2 n2 c2 ∧ Hid (LT w wr bo bq r q mm X l i i (.slice A2 n2 c2) tv L Y)) (fun _ iv _ => n - (intOf iv).toNat)
  case atStart => exact ⟨0, r, q, X, _, none, 0, 0, _, _, _, by omega, rfl, rfl, HL⟩
  case round =>
    clear HL
    obtain ⟨i, r, q, X, l, A2, n2, c2, tv, L, Y, hi, rfl, rfl, HL⟩ := hrel
    by_cases hil : i < n
    · obtain ⟨ad, rfl⟩ : ∃ ad, A = some ad := by
        cases A with
        | none => have := (h.out.nil rfl).1; omega
        | some ad => exact ⟨ad, rfl⟩
      obtain ⟨kd, on, a, x, m9, Bv, cs, cb, ⟨a0, a1, a2, a3, a4, a5⟩, hkd, hon, ha, hmm9, hv9, hcs⟩ := h.out.cell ad rfl i hil
      rw [addr_flat (by omega)] at a1 a2 a3 a4 a5
      have a0 := HL.out.lr.fr.keep_cell a0
      have a1 := HL.out.lr.fr.keep_cell a1
      have a2 := HL.out.lr.fr.keep_cell a2
      have a3 := HL.out.lr.fr.keep_cell a3
      have a4 := HL.out.lr.fr.keep_cell a4
      have a5 := HL.out.lr.fr.keep_cell a5
      replace ha := Lib.hid ha
      replace hmm9 := Lib.hid hmm9
      replace hcs := Lib.hid hcs
      have hii : (i : Int) < n := by omega
      obtain ⟨tt, htt⟩ : ∃ tt, on.tmod 2 = tt := ⟨_, rfl⟩
      have tb1 : -1 ≤ tt := by have := Int.lt_tmod_of_pos on (show (0 : Int) < 2 by decide); omega
      have tb2 : tt ≤ 1 := by have := Int.tmod_lt_of_pos on (show (0 : Int) < 2 by decide); omega
      obtain ⟨nn, hnn, hnn2⟩ : ∃ nn : Nat, tt % 2 = (nn : Int) ∧ nn < 2 := ⟨(tt % 2).toNat, by omega, by omega⟩
      have hni : (nn : Int) < 2 := by omega
      obtain ⟨w7, hw7⟩ : ∃ u, Hid (u = wr.alloc (.cells #[.int .i64 kd, .int .i64 on, .int .u64 a, .int .u64 x, .int .i64 m9, .slice Bv cs.length cb] 41)) := ⟨_, Lib.hid rfl⟩
      have HB : Hid (Blk w7 wr.heap.size 41 #[.int .i64 kd, .int .i64 on, .int .u64 a, .int .u64 x, .int .i64 m9, .slice Bv cs.length cb]) := Lib.hid (by rw [hw7.out]; exact Blk.new _ _ _)
      have HS : Hid (LT w w7 bo bq r q mm X l i i (.slice A2 n2 c2) tv L Y) := Lib.hid (by rw [hw7.out]; exact HL.out.new_ ((Fr.refl (fun _ => False) wr).alloc _))
      have hv0 := Lib.hid hv9
      have hv9 : Hid (Lies w7 (.slice Bv cs.length cb) cs) := Lib.hid (hv9.frz HS.out.lr.fr)
      have hsb : Hid (bo < wr.heap.size ∧ bq < wr.heap.size) := Lib.hid ⟨HL.out.lr.ow.lt, HL.out.lr.rf.lt⟩
      clear hkd hon
      go_upto_region 14 with (fail)
      rw [← hw7.out]
      clear a0 a1 a2 a3 a4 a5 hw7 HL
      generalize wr.heap.size = sb at *
      have g0 : w7.cell? ⟨sb, 0, none⟩ = some (.int .i64 kd) := HB.out.cell 0
      have g1 : w7.cell? ⟨sb, 1, none⟩ = some (.int .i64 on) := HB.out.cell 1
      by_cases k6 : kd = 6
      · subst k6
        obtain ⟨m, hm1, hm2⟩ : ∃ m : Nat, (1 : Int) - (nn : Int) = (m : Int) ∧ m < 2 := ⟨(1 - (nn : Int)).toNat, by omega, by omega⟩
        have hmi2 : (m : Int) < 2 := by omega
        obtain ⟨x1, x2, _, _⟩ := HS.out.lr.cells hm2
        obtain ⟨y1, y2, y3, y4⟩ := HS.out.lr.cells hnn2
        obtain ⟨F, G, hX, hr, hq, hd⟩ := (HS.out.lr.pd m hm2).tb
        have hlr := (HS.out.lr.pd m hm2).hr
        have hlz := (HS.out.lr.pd m hm2).hz
        have R1 := Lib.hid (wcopy_b (HS.out.lr.pd m hm2).tab hr (by have := hm9.out; omega) (by rw [pasts_len]; omega))
        have hqo : Hid (∀ b, G b → ¬ (b = bo)) := Lib.hid fun b hb => (HS.out.lr.off m hm2 b (by rw [hX]; exact .inr hb)).2.1
        have hq9 := Lib.hid hq
        have hsz : Hid ((0 + (l m).length) * 16 ≤ 140737488355328) := Lib.hid (by omega)
        clear hX hr hq hd hlr hlz
        go_wp2_with fail
        refine R1.out.mono ?_
        rintro _ w8 ⟨s, G1, rfl, h1, f1⟩
        have e1 : w8.cell? ⟨bo, nn, none⟩ = some (.pointer (some ⟨r nn, 0, none⟩)) := f1.keep_cell y1
        have z1 : w8.frozen? ⟨bo, nn, none⟩ = false := (f1.blk HS.out.lr.ow fun h => h).frozen nn
        have e2 : (w8.setCell ⟨bo, nn, none⟩ (.pointer (some ⟨s, 0, none⟩))).cell? ⟨bq, m, none⟩ = some (.pointer (some ⟨q m, 0, none⟩)) := (((f1.blk HS.out.lr.rf fun h => h).far (p := ⟨bo, nn, none⟩) (HS.out.lr.rf.ne_ HS.out.lr.ow (by decide)) _).cell m).trans (ptr2_get q hm2)
        have hq8 : LgR (w8.setCell ⟨bo, nn, none⟩ (.pointer (some ⟨s, 0, none⟩))) (q m) G mm (l m) := (hq9.out.fr f1 fun _ _ h => h).fr (((Fr.refl (fun b => b = bo) w8).set (p := ⟨bo, nn, none⟩) (.inl rfl) _)) hqo.out
        have R2 := Lib.hid (dcopy_b hq8 hsz.out)
        replace h1 := Lib.hid h1
        replace f1 := Lib.hid f1
        have B8 : Hid (Blk (w8.setCell ⟨bo, nn, none⟩ (.pointer (some ⟨s, 0, none⟩))) sb 41 #[.int .i64 6, .int .i64 on, .int .u64 a, .int .u64 x, .int .i64 m9, .slice Bv cs.length cb]) := Lib.hid ((f1.out.blk HB.out fun h => h).far (p := ⟨bo, nn, none⟩) (fun e => by have e9 : sb = bo := e; have := hsb.out.1; omega) _)
        clear R1 hq8 y1 x1 x2
        go_wp2_with fail
        refine R2.out.mono ?_
        rintro _ w9 ⟨s2, G2, rfl, h3, f3⟩
        have e4 : w9.cell? ⟨bq, nn, none⟩ = some (.pointer (some ⟨q nn, 0, none⟩)) := f3.keep_cell ((((f1.out.blk HS.out.lr.rf fun h => h).far (p := ⟨bo, nn, none⟩) (HS.out.lr.rf.ne_ HS.out.lr.ow (by decide)) _).cell nn).trans (ptr2_get q hnn2))
        have z4 : w9.frozen? ⟨bq, nn, none⟩ = false := (f3.blk ((f1.out.blk HS.out.lr.rf fun h => h).far (p := ⟨bo, nn, none⟩) (HS.out.lr.rf.ne_ HS.out.lr.ow (by decide)) _) fun h => h).frozen nn
        have H8 := Lib.hid (HS.out.copied hnn2 hm2 h1.out f1.out h3 f3)
        have B9 : Hid (Blk (w9.setCell ⟨bq, nn, none⟩ (.pointer (some ⟨s2, 0, none⟩))) sb 41 #[.int .i64 6, .int .i64 on, .int .u64 a, .int .u64 x, .int .i64 m9, .slice Bv cs.length cb]) := Lib.hid ((f3.blk B8.out fun h => h).far (p := ⟨bq, nn, none⟩) (fun e => by have e9 : sb = bq := e; have := hsb.out.2; omega) _)
        clear R2 h1 f1 h3 f3 HS B8 hv9 HB y2 y3 y4 e1 z1 e2 hq9 hqo
        go_upto_region 18 with (fail)
        generalize w9.setCell ⟨bq, nn, none⟩ (.pointer (some ⟨s2, 0, none⟩)) = w10 at *
        generalize upd r nn s = r10 at *
        generalize upd q nn s2 = q10 at *
        generalize upd X nn (fun b => G1 b ∨ G2 b) = X10 at *
        generalize upd l nn (l m) = l10 at *
        clear g0 g1 e4 z4
        have C9 := Lib.hid (fun k => redo_all (kd := 6) (on := on) (x := x) (vc := .slice Bv cs.length cb) ((H8.out.drewN k).lr.pd nn hnn2) (by have := H8.out.ln nn hnn2; have := hn41.out; omega) ha.out hmm9.out)
        obtain ⟨y1, y2, _, _⟩ := H8.out.lr.cells hnn2
        have o0 : w10.cell? ⟨sb, 0, none⟩ = some (.int .i64 6) := B9.out.cell 0
        have o1 : w10.cell? ⟨sb, 1, none⟩ = some (.int .i64 on) := B9.out.cell 1
        have o2 : w10.cell? ⟨sb, 2, none⟩ = some (.int .u64 a) := B9.out.cell 2
        have o3 : w10.cell? ⟨sb, 3, none⟩ = some (.int .u64 x) := B9.out.cell 3
        have o4 : w10.cell? ⟨sb, 4, none⟩ = some (.int .i64 m9) := B9.out.cell 4
        have o5 : w10.cell? ⟨sb, 5, none⟩ = some (.slice Bv cs.length cb) := B9.out.cell 5
        go_upto_region 27 with (fail)
        clear B9
        go_wp2_with fail
        refine wp_region_mixH (fun _ => True) [3, 3, 1, 3, 3, 1, 1, 2, 3] (List.range 9) (by kernel_rfl) (by kernel_rfl) (fun _ _ h => h) trivial ?_
        repeat ((first | refine wpMixH_pure rfl rfl (fun K hK => ?_) | refine wpMixH_loc rfl rfl (fun K hK => ?_) | refine wpMixH_any rfl rfl (fun K hK => ?_)); go_simp; refine hK _ _ ?_; clear hK K)
        refine wpMixH_loud rfl rfl (fun m1 K hK => ?_)
        go_wp2_with fail
        refine (C9.out _).mono ?_
        rintro _ w12 ⟨rfl, X9, l9, p9, f9, g9⟩
        have H9 := Lib.hid ((H8.out.drewN (1 + m1)).step hnn2 f9 p9 g9)
        clear C9 p9 f9 g9 H8 o0 o1 o2 o3 o4 o5 y1 y2
        go_wp2_with fail
        refine hK _ _ (fun h => (Bool.false_ne_true ((Eq.symm (by kernel_rfl)).trans h)).elim) ?_; clear hK K
        repeat ((first | refine wpMixH_pure rfl rfl (fun K hK => ?_) | refine wpMixH_loc rfl rfl (fun K hK => ?_) | refine wpMixH_any rfl rfl (fun K hK => ?_)); go_simp; refine hK _ _ ?_; clear hK K)
        refine wpMixH_nil (fun m5 => ?_)
        go_wp2
        go_roundw
        case rel => exact ⟨i + 1, _, _, _, _, _, _, _, _, _, _, by omega, by simp, rfl, Lib.hid ((H9.out.drewN m5).weak (by omega))⟩
        case measure => simp [intOf]; omega
      · by_cases k3 : kd = 3
        · subst k3
          obtain ⟨y1, y2, _, _⟩ := HS.out.lr.cells hnn2
          have o5 : w7.cell? ⟨sb, 5, none⟩ = some (.slice Bv cs.length cb) := HB.out.cell 5
          have hc8 : Hid ((cs.length + 3) * 8 ≤ 140737488355328) := Lib.hid (by have := hcs.out; omega)
          go_wp2_with fail
          refine (lend_b hv9.out hc8.out).mono ?_
          rintro _ w8 ⟨u, rfl, Lu, hb8, hu8⟩
          have f8 := Fr.of_below hb8 (Nat.le_refl _) (fun _ => False)
          have H8 := Lib.hid (HS.out.new_ f8)
          have B8 := Lib.hid (f8.blk HB.out fun h => h)
          have v8 := Lib.hid (hv9.out.frz f8)
          replace Lu := Lib.hid Lu
          obtain ⟨Au, cu, rfl, hcu⟩ := Lu.out.wl.shape
          replace hcu := Lib.hid hcu
          clear y1 y2 o5 hb8 hu8 f8 HS HB hv9 g0 g1
          obtain ⟨y1, y2, _, _⟩ := H8.out.lr.cells hnn2
          have O1 := Lib.hid ((H8.out.lr.pd nn hnn2).over1 Lu.out.wl.lies (by have := hc8.out; omega))
          have hl1 : Hid (((overGo cs.length (redo (l nn)) cs).getD []).length ≤ cs.length) := Lib.hid overD_len
          obtain ⟨ec, hec⟩ : ∃ u, Hid (codeO (overGo cs.length (redo (l nn)) cs) = u) := ⟨_, Lib.hid rfl⟩
          obtain ⟨l1, hel⟩ : ∃ u, Hid ((overGo cs.length (redo (l nn)) cs).getD [] = u) := ⟨_, Lib.hid rfl⟩
          rw [hec.out, hel.out] at O1
          rw [hel.out] at hl1
          go_wp2_with fail
          refine O1.out.mono ?_
          rintro _ w9 ⟨u1, rfl, q1, f9⟩
          obtain ⟨A1, c1, rfl, hc1⟩ := q1.shape
          have H9 := Lib.hid (H8.out.new_ f9)
          have B9 := Lib.hid (f9.blk B8.out fun h => h)
          have v9 := Lib.hid (v8.out.frz f9)
          have Lu9 := Lib.hid (Lu.out.frz f9)
          have fr9 : Hid (∀ k, own (tval (A1, l1.length, c1)) k → w8.heap.size ≤ k) := Lib.hid fun k hk => (f9.new k hk).elim (fun h => h.elim) id
          have sz9 := Lib.hid f9.size
          replace q1 : Hid (Wl w9 (tval (A1, l1.length, c1)) l1) := Lib.hid q1
          replace hc1 := Lib.hid hc1
          clear O1 y1 y2 B8 v8 Lu f9
          obtain ⟨y1, y2, _, _⟩ := H9.out.lr.cells hnn2
          have o5 : w9.cell? ⟨sb, 5, none⟩ = some (.slice Bv cs.length cb) := B9.out.cell 5
          have O2 := Lib.hid (fun k => ((H9.out.drewN k).lr.pd nn hnn2).over2 (v9.out.drewN k) (by have := hc8.out; omega))
          rw [hec.out, hel.out] at O2
          go_wp2_with fail
          refine wp_region_mixH (fun _ => True) [3, 3, 1, 3, 1, 2, 3, 3, 3, 3, 3] (List.range 11) (by kernel_rfl) (by kernel_rfl) (fun _ _ h => h) trivial ?_
          repeat ((first | refine wpMixH_pure rfl rfl (fun K hK => ?_) | refine wpMixH_loc rfl rfl (fun K hK => ?_) | refine wpMixH_any rfl rfl (fun K hK => ?_)); go_simp; refine hK _ _ ?_; clear hK K)
          refine wpMixH_loud rfl rfl (fun m1 K hK => ?_)
          go_wp2_with fail
          refine (O2.out _).mono ?_
          rintro _ w10 ⟨u2, rfl, q2, f10⟩
          have f10 : Fr (fun _ => False) w9 (own u2) w10 := ⟨f10.os, f10.tape, f10.output, f10.size, f10.block, f10.new⟩
          clear O2 y1 y2 o5
          go_wp2_with fail
          refine hK _ _ (fun h => (Bool.false_ne_true ((Eq.symm (by kernel_rfl)).trans h)).elim) ?_; clear hK K
          repeat ((first | refine wpMixH_pure rfl rfl (fun K hK => ?_) | refine wpMixH_loc rfl rfl (fun K hK => ?_) | refine wpMixH_any rfl rfl (fun K hK => ?_)); go_simp; refine hK _ _ ?_; clear hK K)
          refine wpMixH_nil (fun m2 => ?_)
          have f10 := f10.drewN m2
          have H10 := Lib.hid (H9.out.new_ f10)
          have B10 := Lib.hid (f10.blk B9.out fun h => h)
          have v10 := Lib.hid (v9.out.frz f10)
          have Lu10 := Lib.hid (Lu9.out.frz f10)
          have q1 := Lib.hid (q1.out.fr f10 fun _ _ h => h)
          have q2 := Lib.hid (q2.drewN m2)
          have sz10 := Lib.hid (Nat.le_trans sz9.out f10.size)
          clear f10 H9 B9 v9 Lu9 sz9
          generalize w10.drewN m2 = w11 at *
          have o5 : w11.cell? ⟨sb, 5, none⟩ = some (.slice Bv cs.length cb) := B10.out.cell 5
          go_wp2_with fail
          refine num_b.mono ?_
          rintro _ _ ⟨rfl, rfl⟩
          go_wp2_with fail
          refine (words_b q1.out.lies q2.out.lies (by have := hl1.out; have := hc8.out; omega)).mono ?_
          rintro _ _ ⟨⟨k1, rfl⟩, rfl⟩
          have o5 : (w11.drewN k1).cell? ⟨sb, 5, none⟩ = some (.slice Bv cs.length cb) := o5
          go_wp2_with fail
          refine (kept_b (Lu10.out.drewN k1) (v10.out.drewN k1) hc8.out).mono ?_
          rintro _ _ ⟨⟨k2, rfl⟩, rfl⟩
          have H11 := Lib.hid (H10.out.drewN (k1 + k2))
          have B11 : Hid (Blk (w11.drewN (k1 + k2)) sb 41 #[.int .i64 3, .int .i64 on, .int .u64 a, .int .u64 x, .int .i64 m9, .slice Bv cs.length cb]) := Lib.hid B10.out
          have q11 : Hid (Wl (w11.drewN (k1 + k2)) (tval (A1, l1.length, c1)) l1) := Lib.hid q1.out
          have sz11 : Hid (w8.heap.size ≤ (w11.drewN (k1 + k2)).heap.size) := Lib.hid sz10.out
          clear o5 H10 B10 q1 q2 sz10 v10 Lu10
          go_upto_region 26 with (fail)
          try rw [drewN_drewN]
          generalize w11.drewN (k1 + k2) = w12 at *
          have hn2 := H11.out.td.fl.1
          have tl : Hid (tv.length ≤ i) := Lib.hid H11.out.tn
          have tz1 : Hid (tv.length + 1 ≤ 9223372036854775807) := Lib.hid (by have := tl.out; omega)
          have tz2 : Hid ((tv.length + 1) * 24 ≤ 140737488355328) := Lib.hid (by have := tl.out; have := hn41.out; omega)
          have hs12 := Lib.hid H11.out.td.sl
          go_wp2_with (at_builtin; refine wpList_told w12 rfl (.tmp 152) (.tmp 154) rfl (.slice A2 n2 c2) tv A1 l1.length c1 rfl hs12.out rfl tz1.out tz2.out ?_; intro A3 cp3 w13 hc3 hv3 hm3; have V3 := Lib.hid hv3; have M3 := Lib.hid hm3; clear hv3 hm3)
          have H13 := Lib.hid (LT.add H8.out H11.out q11.out fr9.out sz11.out (by have := hl1.out; have := hcs.out; omega) V3.out M3.out)
          have B13 := Lib.hid (M3.out.blk B11.out (Sl.ne_ hs12.out B11.out (by decide)))
          clear H8 H11 B11 q11 fr9 sz11 V3 M3 hs12 tz1 tz2 tl hn2
          generalize upd L tv.length l1 = L13 at *
          have C9 := Lib.hid (fun k => redo_all (kd := 3) (on := on) (x := x) (vc := .slice Bv cs.length cb) ((H13.out.drewN k).lr.pd nn hnn2) (by have := H13.out.ln nn hnn2; have := hn41.out; omega) ha.out hmm9.out)
          obtain ⟨y1, y2, _, _⟩ := H13.out.lr.cells hnn2
          have o0 : w13.cell? ⟨sb, 0, none⟩ = some (.int .i64 3) := B13.out.cell 0
          have o1 : w13.cell? ⟨sb, 1, none⟩ = some (.int .i64 on) := B13.out.cell 1
          have o2 : w13.cell? ⟨sb, 2, none⟩ = some (.int .u64 a) := B13.out.cell 2
          have o3 : w13.cell? ⟨sb, 3, none⟩ = some (.int .u64 x) := B13.out.cell 3
          have o4 : w13.cell? ⟨sb, 4, none⟩ = some (.int .i64 m9) := B13.out.cell 4
          have o5 : w13.cell? ⟨sb, 5, none⟩ = some (.slice Bv cs.length cb) := B13.out.cell 5
          clear B13
          try go_wp2_with fail
          refine wp_region_mixH (fun _ => True) [3, 3, 1, 3, 3, 1, 1, 2, 3] (List.range 9) (by kernel_rfl) (by kernel_rfl) (fun _ _ h => h) trivial ?_
          repeat ((first | refine wpMixH_pure rfl rfl (fun K hK => ?_) | refine wpMixH_loc rfl rfl (fun K hK => ?_) | refine wpMixH_any rfl rfl (fun K hK => ?_)); go_simp; refine hK _ _ ?_; clear hK K)
          refine wpMixH_loud rfl rfl (fun m1 K hK => ?_)
          go_wp2_with fail
          refine (C9.out _).mono ?_
          rintro _ w12 ⟨rfl, X9, l9, p9, f9, g9⟩
          have H9 := Lib.hid ((H13.out.drewN (1 + m1)).step hnn2 f9 p9 g9)
          clear C9 p9 f9 g9 H13 o0 o1 o2 o3 o4 o5 y1 y2
          go_wp2_with fail
          refine hK _ _ (fun h => (Bool.false_ne_true ((Eq.symm (by kernel_rfl)).trans h)).elim) ?_; clear hK K
          repeat ((first | refine wpMixH_pure rfl rfl (fun K hK => ?_) | refine wpMixH_loc rfl rfl (fun K hK => ?_) | refine wpMixH_any rfl rfl (fun K hK => ?_)); go_simp; refine hK _ _ ?_; clear hK K)
          refine wpMixH_nil (fun m5 => ?_)
          go_wp2
          go_roundw
          case rel => exact ⟨i + 1, _, _, _, _, _, _, _, _, _, _, by omega, by simp, rfl, Lib.hid ((H9.out.drewN m5).weak (by omega))⟩
          case measure => simp [intOf]; omega
        · have hk6 : (kd == 6) = false := by simpa using k6
          have hk3 : (kd == 3) = false := by simpa using k3
          clear k6 k3
          obtain ⟨y1, y2, _, _⟩ := HS.out.lr.cells hnn2
          go_upto_region 27 with (fail)
          clear g0 g1 y1 y2
          have C9 := Lib.hid (fun k => redo_all (kd := kd) (on := on) (x := x) (vc := .slice Bv cs.length cb) ((HS.out.drewN k).lr.pd nn hnn2) (by have := HS.out.ln nn hnn2; have := hn41.out; omega) ha.out hmm9.out)
          obtain ⟨y1, y2, _, _⟩ := HS.out.lr.cells hnn2
          have o0 : w7.cell? ⟨sb, 0, none⟩ = some (.int .i64 kd) := HB.out.cell 0
          have o1 : w7.cell? ⟨sb, 1, none⟩ = some (.int .i64 on) := HB.out.cell 1
          have o2 : w7.cell? ⟨sb, 2, none⟩ = some (.int .u64 a) := HB.out.cell 2
          have o3 : w7.cell? ⟨sb, 3, none⟩ = some (.int .u64 x) := HB.out.cell 3
          have o4 : w7.cell? ⟨sb, 4, none⟩ = some (.int .i64 m9) := HB.out.cell 4
          have o5 : w7.cell? ⟨sb, 5, none⟩ = some (.slice Bv cs.length cb) := HB.out.cell 5
          clear HB
          go_wp2_with fail
          refine wp_region_mixH (fun _ => True) [3, 3, 1, 3, 3, 1, 1, 2, 3] (List.range 9) (by kernel_rfl) (by kernel_rfl) (fun _ _ h => h) trivial ?_
          repeat ((first | refine wpMixH_pure rfl rfl (fun K hK => ?_) | refine wpMixH_loc rfl rfl (fun K hK => ?_) | refine wpMixH_any rfl rfl (fun K hK => ?_)); go_simp; refine hK _ _ ?_; clear hK K)
          refine wpMixH_loud rfl rfl (fun m1 K hK => ?_)
          go_wp2_with fail
          refine (C9.out _).mono ?_
          rintro _ w12 ⟨rfl, X9, l9, p9, f9, g9⟩
          have H9 := Lib.hid ((HS.out.drewN (1 + m1)).step hnn2 f9 p9 g9)
          clear C9 p9 f9 g9 HS o0 o1 o2 o3 o4 o5 y1 y2
          go_wp2_with fail
          refine hK _ _ (fun h => (Bool.false_ne_true ((Eq.symm (by kernel_rfl)).trans h)).elim) ?_; clear hK K
          repeat ((first | refine wpMixH_pure rfl rfl (fun K hK => ?_) | refine wpMixH_loc rfl rfl (fun K hK => ?_) | refine wpMixH_any rfl rfl (fun K hK => ?_)); go_simp; refine hK _ _ ?_; clear hK K)
          refine wpMixH_nil (fun m5 => ?_)
          go_wp2
          go_roundw
          case rel => exact ⟨i + 1, _, _, _, _, _, _, _, _, _, _, by omega, by simp, rfl, Lib.hid ((H9.out.drewN m5).weak (by omega))⟩
          case measure => simp [intOf]; omega
    · obtain rfl : i = n := by omega
      clear h hi hil
      have hb0 : (redo (l 0)).length ≤ 4611686018427387904 := by have := (HL.out.lr.pd 0 (by decide)).hm; have := (HL.out.lr.pd 0 (by decide)).hr; omega
      have hb1 : (redo (l 1)).length ≤ 4611686018427387904 := by have := (HL.out.lr.pd 1 (by decide)).hm; have := (HL.out.lr.pd 1 (by decide)).hr; omega
      replace hb0 := Lib.hid hb0
      replace hb1 := Lib.hid hb1
      obtain ⟨x01, x02, _, _⟩ := HL.out.lr.cells (j := 0) (by decide)
      obtain ⟨x11, x12, _, _⟩ := HL.out.lr.cells (j := 1) (by decide)
      have C1 := Lib.hid (fun k => (HL.out.drewN k).apart (by have := hn41.out; omega))
      go_wp2_with fail
      refine wp_region_mixH (fun W => W.cell? ⟨bq, 0, none⟩ = some (.pointer (some ⟨q 0, 0, none⟩)) ∧ W.cell? ⟨bq, 1, none⟩ = some (.pointer (some ⟨q 1, 0, none⟩))) [3, 2, 3, 3, 1, 2, 3, 0, 2, 2, 3, 3, 3, 1, 2, 3, 0, 2, 2, 3, 3, 2, 3, 3, 2, 2, 2, 3, 3, 2, 3, 3] [0, 1, 2, 3, 4, 6, 7, 5, 8, 9, 10, 11, 12, 13, 15, 16, 14, 17, 18, 19, 20, 21, 22, 23, 24, 25, 26, 27, 28, 29, 30, 31] (by kernel_rfl) (by kernel_rfl) (fun _ _ h => h) ⟨x02, x12⟩ ?_
      repeat (first | ((first | refine wpMixH_pure rfl rfl (fun K hK => ?_) | refine wpMixH_loc rfl rfl (fun K hK => ?_) | refine wpMixH_any rfl rfl (fun K hK => ?_)); go_simp; refine hK _ _ ?_; clear hK K) | (refine wpMixH_any rfl rfl (fun K hK => ?_); rw [if_pos (by go_simp)]; apply Exists.intro; refine And.intro (fun w2 hS2 => ?_) (hK _ _ ?_); (focus (obtain ⟨hs1, hs2⟩ := hS2; go_simp; rfl)); clear hK K))
      refine wpMixH_loud rfl rfl (fun m1 K hK => ?_)
      go_wp2_with fail
      refine (C1.out _).mono ?_
      rintro _ v1 ⟨rfl, H1⟩
      replace H1 := Lib.hid H1
      obtain ⟨x01, x02, _, _⟩ := H1.out.cells (j := 0) (by decide)
      obtain ⟨x11, x12, _, _⟩ := H1.out.cells (j := 1) (by decide)
      have C2 := Lib.hid (fun k => ((H1.out.drewN k).pd 0 (by decide)).all_b)
      clear C1 HL
      go_wp2_with fail
      refine hK _ _ (fun _ => ⟨x02, x12⟩) ?_; clear hK K
      repeat (first | ((first | refine wpMixH_pure rfl rfl (fun K hK => ?_) | refine wpMixH_loc rfl rfl (fun K hK => ?_) | refine wpMixH_any rfl rfl (fun K hK => ?_)); go_simp; refine hK _ _ ?_; clear hK K) | (refine wpMixH_any rfl rfl (fun K hK => ?_); rw [if_pos (by go_simp)]; apply Exists.intro; refine And.intro (fun w2 hS2 => ?_) (hK _ _ ?_); (focus (obtain ⟨hs1, hs2⟩ := hS2; go_simp; rfl)); clear hK K))
      refine wpMixH_loud rfl rfl (fun m2 K hK => ?_)
      go_wp2_with fail
      refine (C2.out _).mono ?_
      rintro _ v20 ⟨bb0, rfl, S0, _, f2⟩
      have H20 := Lib.hid ((H1.out.drewN m2).new_ f2)
      obtain ⟨x01, x02, _, _⟩ := H20.out.cells (j := 0) (by decide)
      obtain ⟨x11, x12, _, _⟩ := H20.out.cells (j := 1) (by decide)
      have C3 := Lib.hid (fun k => ((H20.out.drewN k).pd 0 (by decide)).redo_b)
      replace S0 := Lib.hid S0
      clear C2 H1 f2
      go_wp2_with fail
      refine hK _ _ (fun _ => ⟨x02, x12⟩) ?_; clear hK K
      repeat (first | ((first | refine wpMixH_pure rfl rfl (fun K hK => ?_) | refine wpMixH_loc rfl rfl (fun K hK => ?_) | refine wpMixH_any rfl rfl (fun K hK => ?_)); go_simp; refine hK _ _ ?_; clear hK K) | (refine wpMixH_any rfl rfl (fun K hK => ?_); rw [if_pos (by go_simp)]; apply Exists.intro; refine And.intro (fun w2 hS2 => ?_) (hK _ _ ?_); (focus (obtain ⟨hs1, hs2⟩ := hS2; go_simp; rfl)); clear hK K))
      refine wpMixH_loud rfl rfl (fun m3 K hK => ?_)
      go_wp2_with fail
      refine (C3.out _).mono ?_
      rintro _ v30 ⟨A30, c30, rfl, V3, _, f3⟩
      have H30 := Lib.hid ((H20.out.drewN m3).new_ f3)
      have f3' : Fr (fun _ => False) v20 (own (.slice A30 (redo (l 0)).length c30)) v30 := ⟨f3.os, f3.tape, f3.output, f3.size, f3.block, f3.new⟩
      obtain ⟨x01, x02, _, _⟩ := H30.out.cells (j := 0) (by decide)
      obtain ⟨x11, x12, _, _⟩ := H30.out.cells (j := 1) (by decide)
      have C4 := Lib.hid (fun k => walk_b (n := 0) S0.out ((f3'.drewN k).below (B := v20.heap.size) (fun _ h => h.elim) (Nat.le_refl _)) (Cl.lies (Sl.drewN V3 k)) hb0.out)
      clear C3 H20 S0 f3 f3' V3
      go_wp2_with fail
      refine hK _ _ (fun _ => ⟨x02, x12⟩) ?_; clear hK K
      repeat (first | ((first | refine wpMixH_pure rfl rfl (fun K hK => ?_) | refine wpMixH_loc rfl rfl (fun K hK => ?_) | refine wpMixH_any rfl rfl (fun K hK => ?_)); go_simp; refine hK _ _ ?_; clear hK K) | (refine wpMixH_any rfl rfl (fun K hK => ?_); rw [if_pos (by go_simp)]; apply Exists.intro; refine And.intro (fun w2 hS2 => ?_) (hK _ _ ?_); (focus (obtain ⟨hs1, hs2⟩ := hS2; go_simp; rfl)); clear hK K))
      refine wpMixH_loud rfl rfl (fun m4 K hK => ?_)
      go_wp2_with fail
      refine (C4.out _).mono ?_
      rintro _ v4 ⟨rfl, f4⟩
      have H4 := Lib.hid ((H30.out.drewN m4).new_ f4)
      clear C4 H30 f4
      obtain ⟨x01, x02, _, _⟩ := H4.out.cells (j := 0) (by decide)
      obtain ⟨x11, x12, _, _⟩ := H4.out.cells (j := 1) (by decide)
      have C5 := Lib.hid (fun k => ((H4.out.drewN k).pd 1 (by decide)).all_b)
      go_wp2_with fail
      refine hK _ _ (fun _ => ⟨x02, x12⟩) ?_; clear hK K
      repeat (first | ((first | refine wpMixH_pure rfl rfl (fun K hK => ?_) | refine wpMixH_loc rfl rfl (fun K hK => ?_) | refine wpMixH_any rfl rfl (fun K hK => ?_)); go_simp; refine hK _ _ ?_; clear hK K) | (refine wpMixH_any rfl rfl (fun K hK => ?_); rw [if_pos (by go_simp)]; apply Exists.intro; refine And.intro (fun w2 hS2 => ?_) (hK _ _ ?_); (focus (obtain ⟨hs1, hs2⟩ := hS2; go_simp; rfl)); clear hK K))
      refine wpMixH_loud rfl rfl (fun m5 K hK => ?_)
      go_wp2_with fail
      refine (C5.out _).mono ?_
      rintro _ v21 ⟨bb1, rfl, S1, _, f2⟩
      have H21 := Lib.hid ((H4.out.drewN m5).new_ f2)
      obtain ⟨x01, x02, _, _⟩ := H21.out.cells (j := 0) (by decide)
      obtain ⟨x11, x12, _, _⟩ := H21.out.cells (j := 1) (by decide)
      have C3 := Lib.hid (fun k => ((H21.out.drewN k).pd 1 (by decide)).redo_b)
      replace S1 := Lib.hid S1
      clear C5 H4 f2
      go_wp2_with fail
      refine hK _ _ (fun _ => ⟨x02, x12⟩) ?_; clear hK K
      repeat (first | ((first | refine wpMixH_pure rfl rfl (fun K hK => ?_) | refine wpMixH_loc rfl rfl (fun K hK => ?_) | refine wpMixH_any rfl rfl (fun K hK => ?_)); go_simp; refine hK _ _ ?_; clear hK K) | (refine wpMixH_any rfl rfl (fun K hK => ?_); rw [if_pos (by go_simp)]; apply Exists.intro; refine And.intro (fun w2 hS2 => ?_) (hK _ _ ?_); (focus (obtain ⟨hs1, hs2⟩ := hS2; go_simp; rfl)); clear hK K))
      refine wpMixH_loud rfl rfl (fun m6 K hK => ?_)
      go_wp2_with fail
      refine (C3.out _).mono ?_
      rintro _ v31 ⟨A31, c31, rfl, V3, _, f3⟩
      have H31 := Lib.hid ((H21.out.drewN m6).new_ f3)
      have f3' : Fr (fun _ => False) v21 (own (.slice A31 (redo (l 1)).length c31)) v31 := ⟨f3.os, f3.tape, f3.output, f3.size, f3.block, f3.new⟩
      obtain ⟨x01, x02, _, _⟩ := H31.out.cells (j := 0) (by decide)
      obtain ⟨x11, x12, _, _⟩ := H31.out.cells (j := 1) (by decide)
      have C4 := Lib.hid (fun k => walk_b (n := 0) S1.out ((f3'.drewN k).below (B := v21.heap.size) (fun _ h => h.elim) (Nat.le_refl _)) (Cl.lies (Sl.drewN V3 k)) hb1.out)
      clear C3 H21 S1 f3 f3' V3
      go_wp2_with fail
      refine hK _ _ (fun _ => ⟨x02, x12⟩) ?_; clear hK K
      repeat (first | ((first | refine wpMixH_pure rfl rfl (fun K hK => ?_) | refine wpMixH_loc rfl rfl (fun K hK => ?_) | refine wpMixH_any rfl rfl (fun K hK => ?_)); go_simp; refine hK _ _ ?_; clear hK K) | (refine wpMixH_any rfl rfl (fun K hK => ?_); rw [if_pos (by go_simp)]; apply Exists.intro; refine And.intro (fun w2 hS2 => ?_) (hK _ _ ?_); (focus (obtain ⟨hs1, hs2⟩ := hS2; go_simp; rfl)); clear hK K))
      refine wpMixH_loud rfl rfl (fun m7 K hK => ?_)
      go_wp2_with fail
      refine (C4.out _).mono ?_
      rintro _ v7 ⟨rfl, f4⟩
      have H7 := Lib.hid ((H31.out.drewN m7).new_ f4)
      clear C4 H31 f4
      clear x01 x02 x11 x12
      go_wp2_with fail
      refine hK _ _ (fun h => (Bool.false_ne_true ((Eq.symm (by kernel_rfl)).trans h)).elim) ?_; clear hK K
      repeat ((first | refine wpMixH_pure rfl rfl (fun K hK => ?_) | refine wpMixH_loc rfl rfl (fun K hK => ?_) | refine wpMixH_any rfl rfl (fun K hK => ?_)); go_simp; refine hK _ _ ?_; clear hK K)
      refine wpMixH_loud rfl rfl (fun m8 K hK => ?_)
      go_wp2_with fail
      refine (noRedo_b (p := none) (.inl rfl)).mono ?_
      rintro _ v8 ⟨rfl, f8⟩
      have H8 := Lib.hid ((H7.out.drewN m8).new_ f8)
      clear H7 f8
      go_wp2_with fail
      refine hK _ _ (fun h => (Bool.false_ne_true ((Eq.symm (by kernel_rfl)).trans h)).elim) ?_; clear hK K
      repeat ((first | refine wpMixH_pure rfl rfl (fun K hK => ?_) | refine wpMixH_loc rfl rfl (fun K hK => ?_) | refine wpMixH_any rfl rfl (fun K hK => ?_)); go_simp; refine hK _ _ ?_; clear hK K)
      refine wpMixH_loud rfl rfl (fun m9 K hK => ?_)
      go_wp2_with fail
      refine hK _ _ (fun h => (Bool.false_ne_true ((Eq.symm (by kernel_rfl)).trans h)).elim) ?_; clear hK K
      repeat ((first | refine wpMixH_pure rfl rfl (fun K hK => ?_) | refine wpMixH_loc rfl rfl (fun K hK => ?_) | refine wpMixH_any rfl rfl (fun K hK => ?_)); go_simp; refine hK _ _ ?_; clear hK K)
      refine wpMixH_loud rfl rfl (fun m10 K hK => ?_)
      go_wp2_with fail
      refine hK _ _ (fun h => (Bool.false_ne_true ((Eq.symm (by kernel_rfl)).trans h)).elim) ?_; clear hK K
      repeat ((first | refine wpMixH_pure rfl rfl (fun K hK => ?_) | refine wpMixH_loc rfl rfl (fun K hK => ?_) | refine wpMixH_any rfl rfl (fun K hK => ?_)); go_simp; refine hK _ _ ?_; clear hK K)
      refine wpMixH_loud rfl rfl (fun m11 K hK => ?_)
      have M9 := Lib.hid (noRedo_b (w := ((v8.drewN (m9 + m10)).alloc (.cells #[.bool false, .int .i64 0, .slice none 0 0, .pointer none, .slice none 0 0] 70)).drewN m11) (p := some ⟨v8.heap.size, 0, none⟩) (.inr ⟨_, rfl, (Blk.new (v8.drewN (m9 + m10)) _ _).drewN m11⟩))
      have H9 := Lib.hid (((H8.out.drewN (m9 + m10)).new_ ((Fr.refl (fun _ => False) (v8.drewN (m9 + m10))).alloc (.cells #[.bool false, .int .i64 0, .slice none 0 0, .pointer none, .slice none 0 0] 70))).drewN m11)
      clear H8
      go_wp2_with fail
      refine M9.out.mono ?_
      rintro _ v9 ⟨rfl, f9⟩
      have H10 := Lib.hid (H9.out.new_ f9)
      have W10 := Lib.hid (fun k => works_b ((H10.out.drewN k).tab.frs (H10.out.drewN k).fr fun h => h))
      clear M9 H9 f9
      go_wp2_with fail
      refine hK _ _ (fun h => (Bool.false_ne_true ((Eq.symm (by kernel_rfl)).trans h)).elim) ?_; clear hK K
      repeat ((first | refine wpMixH_pure rfl rfl (fun K hK => ?_) | refine wpMixH_loc rfl rfl (fun K hK => ?_) | refine wpMixH_any rfl rfl (fun K hK => ?_)); go_simp; refine hK _ _ ?_; clear hK K)
      refine wpMixH_loud rfl rfl (fun m12 K hK => ?_)
      go_wp2_with fail
      refine (W10.out _).mono ?_
      rintro _ v10 ⟨rfl, f10⟩
      have F11 := Lib.hid ((H10.out.drewN m12).fr.trans f10)
      clear W10 H10 f10
      go_wp2_with fail
      refine hK _ _ (fun h => (Bool.false_ne_true ((Eq.symm (by kernel_rfl)).trans h)).elim) ?_; clear hK K
      repeat ((first | refine wpMixH_pure rfl rfl (fun K hK => ?_) | refine wpMixH_loc rfl rfl (fun K hK => ?_) | refine wpMixH_any rfl rfl (fun K hK => ?_)); go_simp; refine hK _ _ ?_; clear hK K)
      refine wpMixH_nil (fun m13 => ?_)
      go_wp2
      go_ret
      exact ⟨rfl, F11.out.drewN m13⟩
end Go.Proofs.YtfhpnlaabgkpjaaDoor
/- LogsRedo: the law's walk, whatever the number. -/
namespace Go.Proofs.YtfhpnlaabgkpjaaDoor
open Go.RowKit
theorem logsRedo_walk {W : World} (most : Int) (hm : (Lit.int .i64 most).wf = true) {A : Option Addr} {n c : Nat} (h : OpsIn W A n c) (hT : Tab W) :
    Calls Tryd.prog 5 #[.int .i64 most, .slice A n c] W fun e w' => e = .returned (.bool true) ∧ Fr (fun _ => False) W (fun _ => False) w' := by
  obtain ⟨h1, h2⟩ := bd_i64 hm
  by_cases hr : 0 ≤ most ∧ most ≤ 1048576
  · obtain ⟨mm, rfl⟩ : ∃ mm : Nat, most = (mm : Int) := ⟨most.toNat, by omega⟩
    exact logsRedo_yes (by omega) h hT
  · exact logsRedo_no (by omega) h1 h2 hT
end Go.Proofs.YtfhpnlaabgkpjaaDoor
/- LogsRedo: its statement out of its walk, and its card. -/
namespace Go.Proofs.YtfhpnlaabgkpjaaDoor.logsRedo
open Go.ChangeShapes Go.WideShapes Go.ChangeAt Go.WideMaps Go.WideElems Go.RowKit Go.Deep
set_option linter.unusedVariables false
theorem own : ownKnob Tryd.prog.godebug = none := by kernel_rfl
theorem laidOut : laidOutB Tryd.prog = true := by kernel_rfl
theorem g32 : Tryd.prog.globalNamed "math/bits.deBruijn32tab" = some 0 := by kernel_rfl
theorem g64 : Tryd.prog.globalNamed "math/bits.deBruijn64tab" = some 1 := by kernel_rfl
theorem t64 : (Tryd.prog.globals[1]?).map (·.type) = some 115 := by kernel_rfl
theorem door_met (os : Os) (args : Array Value) : laidMetH Tryd.prog Rows.logsRedoRow.laid ((World.doorLaid Tryd.prog 400 os).forCall (fun _ _ => 0) ⟨#[], args, []⟩).memory :=
  laidMetH_of_parts3 (fuel := 8) (laidMet_of_run' 8 (by kernel_rfl) (by kernel_rfl)) (by kernel_rfl) (by kernel_rfl)
theorem of_laid {W : World} (h : laidMetH Tryd.prog Rows.logsRedoRow.laid W) : Tab W := by
  rw [MakeChecks.laidMetH_plain _ _ _ (by kernel_rfl)] at h
  obtain ⟨ps, ⟨g0, t0, cs0, f0, p0, q0, hg0, ht0, hv0, hd0, ⟨g1, t1, cs1, f1, p1, q1, hg1, ht1, hv1, hd1, _, _⟩, _⟩, _, _⟩ := h
  obtain rfl := Option.some.inj (g64.symm.trans hg1)
  obtain rfl := Option.some.inj (t64.symm.trans ht1)
  obtain ⟨xs, m1, rfl, hx1, hlen, hn3, hel⟩ := DataW.trod_array Tryd.underlying115 hd1
  have c1 : Tryd.prog.cellsOf 5 = 1 := by kernel_rfl
  rw [c1] at hel
  have hL : (Rows.laid_math_bits_deBruijn64tab : DataW Unit) = .agg (Lib.deBruijn64tab.map fun (n : Nat) => .lit (.int .u8 (n : Int))) := by kernel_rfl
  rw [hL] at hx1
  simp only [Prod.mk.injEq, DataW.agg.injEq] at hx1
  have hx := hx1.1
  have hT64 : Lib.deBruijn64tab.length = 64 := by decide
  intro i hi
  rw [hT64] at hi
  have hxi := congrArg (fun l => l[i]?) hx
  simp only [List.getElem?_map] at hxi
  have h1 := hel i hi
  obtain ⟨x, hxx⟩ : ∃ x, xs[i]? = some x := ⟨xs[i]'(by omega), List.getElem?_eq_getElem (by omega)⟩
  obtain ⟨n, hn⟩ : ∃ n, Lib.deBruijn64tab[i]? = some n := ⟨Lib.deBruijn64tab[i]'(by omega), List.getElem?_eq_getElem (by omega)⟩
  rw [hxx, hn] at hxi
  simp only [Option.map_some, Option.some.injEq] at hxi
  rw [hxx] at h1
  obtain ⟨k, e1, e2, _⟩ := DataW.trod_int (k := .u8) Tryd.underlying5 h1
  have hk : k = (n : Int) := by rw [e2] at hxi; simpa using hxi.symm
  have hcell := World.var?_cell hg1 hv1 i
  rw [hcell, List.getD_eq_getElem?_getD, hn]
  rw [Nat.mul_one] at e1
  have hg : cs1.toList[i]? = some (.int .u8 k) := by
    have := congrArg (fun l => l[0]?) e1
    simpa using this
  rw [← Array.getElem?_toList, hg, hk]
  rfl
set_option maxRecDepth 100000 in
theorem lifted (os : Os) (started : os.Started) (H : Type) (enc : TypeId × Value → H) :
    ReturnsInHanded {} Tryd.checked os 5 .any (fun w args => (Rows.logsRedoSpec.pre enc Tryd.prog Tryd.f5 [] false w args ∧ laidMetH Tryd.prog Rows.logsRedoRow.laid w) ∧ sizedMet enc Tryd.prog Tryd.f5 (OpenSpec.ofChange Rows.logsRedoSpec) false w args)
      (Rows.logsRedoSpec.post enc Tryd.prog Tryd.f5 false true false false) := by
  refine returnsInHanded_of_change_and (C := Tryd.checked) (X := fun w _ => laidMetH Tryd.prog Rows.logsRedoRow.laid w) (fun _ _ _ hh h => h.of_heap hh) own started (by kernel_rfl) Tryd.func5
    (ChangeSpec.witness_shaped (enc := enc) (C := Tryd.checked) (os := os) (X := fun w _ => laidMetH Tryd.prog Rows.logsRedoRow.laid w) false (World.doorLaid Tryd.prog 400 os) #[.int .i64 0, .slice none 0 0] 8 rfl (World.shaped_of_RefB (by kernel_rfl) (by kernel_rfl)) (by kernel_rfl) (by kernel_rfl) (by kernel_rfl) (door_met os _)) ?_
  intro W base args ds gs before hval0 hW _ hsz0 hL _
  have hval : ∀ (j : Nat) t v, Tryd.f5.params[j]? = some t → args[j]? = some v → Value.okWide Tryd.prog W .any base t v := hval0
  have hsz : (DataW.weightsEach Tryd.prog (Tryd.f5.params.toList ++ Rows.logsRedoSpec.plain.varTypes Tryd.prog) (ds ++ gs)).all (· ≤ reachBytes) = true := hsz0
  have hW' := hW
  obtain ⟨p, q, hA0, hV, rfl, hfz, hnd⟩ := hW
  have hA : DataW.TrodAll enc Tryd.prog W 0 (fun _ => true) true Tryd.f5.params.toList args.toList ds p := hA0
  rw [Tryd.params5] at hA hval hsz
  obtain ⟨v0, vs0, d0, ds0, p0, q0, hargs, rfl, rfl, h0, r0⟩ := trodAll_cons hA
  obtain ⟨v1, vs1, d1, ds1, p1, q1, rfl, rfl, rfl, h1, r1⟩ := trodAll_cons r0
  obtain ⟨rfl, rfl, rfl⟩ := trodAll_nil r1
  obtain rfl : args = #[v0, v1] := by cases args; simp_all
  obtain ⟨rfl, rfl⟩ := trodVars_none hV
  obtain ⟨a0, rfl, rfl, rfl, w0⟩ := open_int Tryd.underlying3 (hval 0 3 v0 rfl rfl) h0
  obtain ⟨a1, len1, cap1, rfl⟩ := okWide_slice Tryd.underlying22 (hval 1 22 v1 rfl rfl)
  have k1 := h1
  have lt1 : ∀ x ∈ p1, x.block < W.heap.size := by obtain ⟨m, hm⟩ := k1; exact DataW.trod_lt m _ _ _ hm
  have w1 := open_ops hsz (j := 1) rfl rfl h1
  clear hA0 hval0 hsz0
  simp only [List.append_nil] at hW'
  have hT := of_laid hL
  refine (logsRedo_walk a0 w0 w1 hT).mono fun e W' ⟨he, fr⟩ => ?_
  have bel : Below W.heap.size W W' := fr.below (fun _ h => h.elim) (Nat.le_refl _)
  subst he
  exact ⟨_, rfl, _, _, _, [], _, [], hW', trodAll_mk1 (shut_bool Tryd.underlying4 _), (trodAll_cons_mk (shut_int Tryd.underlying3 w0) (trodAll_cons_mk (Below.trod laidOut (by kernel_rfl) (of_decide_eq_true (by kernel_rfl)) k1 bel lt1) trodAll_mk0)), rfl, bel.frame _, fun h => by cases h⟩
theorem proved0 : Rows.LogsRedoSaid :=
  OpenClaim.holds_of_wide 5 Tryd.f5 rfl rfl rfl rfl rfl rfl rfl ⟨rfl, rfl, rfl, rfl, rfl⟩ rfl rfl rfl rfl rfl (by kernel_rfl) Tryd.func5 (by kernel_rfl)
    (of_decide_eq_true (by kernel_rfl)) (by unfold Func.isWrapper; first | (rw [if_pos (by decide +kernel)]; kernel_rfl) | (rw [if_neg (by decide +kernel)]; exact ⟨rfl, rfl⟩))
    (fun os started H enc _ => lifted os started H enc)
theorem proved : Rows.LogsRedoCardSaid :=
  Claim7.holds_tied_plain_at .later [] [.data, .data] true Rows.logsRedoCard.stood.harness false
    proved0 (fun _ h => by cases h) (by kernel_rfl) (fun _ h => by cases h) logsRedo_row_tie rfl ⟨rfl, rfl⟩ (by kernel_rfl) rfl
    (fun f fn hf hfn => by
      obtain rfl : f = 5 := Option.some.inj ((show Tryd.prog.funcNamed "parley/parleylaw05.LogsRedo" = some 5 by kernel_rfl).symm.trans hf) |>.symm
      obtain rfl : fn = Tryd.f5 := (Option.some.inj (Tryd.func5.symm.trans hfn)).symm
      exact ⟨by kernel_rfl, fun j t ht => by
        rw [Tryd.params5] at ht
        rcases j with _ | j
        · obtain rfl : t = 3 := by simpa using ht.symm
          exact (show Tryd.prog.wantsStandIn 3 = false by kernel_rfl)
        · skip
          rcases j with _ | j
          · obtain rfl : t = 22 := by simpa using ht.symm
            exact (show Tryd.prog.wantsStandIn 22 = false by kernel_rfl)
          · simp at ht⟩)
    (by kernel_rfl)
end Go.Proofs.YtfhpnlaabgkpjaaDoor.logsRedo
