/- (*events.look).take by contract: kind by kind (printed by ev/mktake.py). -/
import Derived.Test.YteoebfjhadmnbaaPSt3
import Derived.Test.YteoebfjhadmnbaaPSt6
namespace Go.Proofs.Yteoebfjhadmnbaa
open Go.RowKit
set_option maxHeartbeats 4000000
set_option linter.unusedVariables false
set_option linter.unusedSimpArgs false
section
variable {B b n : Nat} {w : World} {s : St} {m : Nat → Option Nat} {tv : Value}
set_option maxRecDepth 100000 in
theorem take_abort (h : LookW B w b s n m tv) (hBw : B ≤ w.heap.size) (hs : StBd s n) (hn : n ≤ 1152921504606846976) {t i : Nat} {ad wd er : Int} {ow : Bool} (ht : t < 8) {sn : Int} {ws : List (Int × Int)} {tr : Nat} (hth : s.th t = ⟨1, sn, ws, tr⟩) :
    Calls Try.prog 57 #[.pointer (some ⟨b, 0, none⟩), .int .i64 i, evV ⟨t, 8, ad, wd, ow, er⟩] w fun x w' => x = .returned (.tuple #[]) ∧ Below B w w' ∧ ∃ m' tv', LookW B w' b (take s i ⟨t, 8, ad, wd, ow, er⟩) (n + 1) m' tv' := by
  have hb1 : Hid (Below B w (w.alloc (.cells #[.int .i64 t, .int .i64 8, .int .u64 ad, .int .u64 wd, .bool ow, .int .i64 er] 27))) := Lib.hid ((Below.refl _ w).alloc hBw _)
  have hL1 := h.alloc (.cells #[.int .i64 t, .int .i64 8, .int .u64 ad, .int .u64 wd, .bool ow, .int .i64 er] 27)
  have hE1 := Blk.new w 27 #[.int .i64 t, .int .i64 8, .int .u64 ad, .int .u64 wd, .bool ow, .int .i64 er]
  have hbe : b ≠ w.heap.size := Nat.ne_of_lt h.blk.lt
  have hx := hs.tr t (by unfold liveT; rw [hth]; simp)
  rw [hth] at hx
  dsimp only at hx
  have hcn := hs.cnt _ (List.getElem_mem hx)
  have hget := h.get
  obtain ⟨A, cap, rfl, hcap⟩ := h.tries.shape
  obtain ⟨g, off, rfl, hg, -⟩ := h.tries.cell encT_len (by decide) hx
  have hgB : B ≤ g := hget g (by simp [own, Value.ownBlock])
  have hge : g ≠ w.heap.size := Nat.ne_of_lt hg
  have hx' : (tr : Int) < (s.tries.length : Int) := by omega
  clear hcap hget hg
  generalize hW1 : w.alloc (.cells #[.int .i64 t, .int .i64 8, .int .u64 ad, .int .u64 wd, .bool ow, .int .i64 er] 27) = w1 at *
  replace hW1 := Lib.hid hW1
  have ht' : (t : Int) < 8 := by omega
  have c_how1 := hL1.c_how ht (hth)
  have c_tv1 := hL1.c_tv
  have c_tr1 := hL1.c_tr ht (hth)
  have e01 := (hE1.cell 0).trans (show _ = some (.int .i64 t) from rfl)
  have e11 := (hE1.cell 1).trans (show _ = some (.int .i64 8) from rfl)
  have f21 := (hL1.c_x (j := 2) hx (by decide)).2
  generalize hx0 : s.tries[tr] = x0 at *
  have x21 := (hL1.c_x (j := 2) hx (by decide)).1.trans (show _ = some (Value.int .i64 x0.last) from by rw [hx0]; rfl)
  have hup : Hid (take s i ⟨t, 8, ad, wd, ow, er⟩ = ⟨fun j => if j = t then tkT ⟨1, sn, ws, tr⟩ ⟨t, 8, ad, wd, ow, er⟩ s.tries.length else s.th j, if (8 : Int) = 6 ∧ 1 = 2 then wd else s.num, if (8 : Int) = 5 then t else if (8 : Int) = 6 ∧ 1 = 2 then -1 else s.hold, s.tries.set tr (updT x0 i ⟨t, 8, ad, wd, ow, er⟩)⟩) := Lib.hid ((take_in hth hx (by simp) (by simp) rfl).trans (by rw [hx0]))
  have hL2 : ∀ j, LookW B ((w1.drewN j).setCell ⟨g, off + tr * 7 + 2, none⟩ (.int .i64 i)) b (s.setL (s.tries.set tr ⟨x0.th, x0.first, i, x0.sn, x0.how, x0.rd, x0.wr⟩)) n m (.slice (some ⟨g, off, none⟩) s.tries.length cap) := fun j => (hL1.drewN j).setX hx (by decide) _ _ (by rw [hx0]; rfl)
  have hE2 : ∀ j, Blk ((w1.drewN j).setCell ⟨g, off + tr * 7 + 2, none⟩ (.int .i64 i)) w.heap.size 27 #[.int .i64 t, .int .i64 8, .int .u64 ad, .int .u64 wd, .bool ow, .int .i64 er] := fun j => (hE1.drewN j).far (p := ⟨g, off + tr * 7 + 2, none⟩) hge.symm _
  have hx2 : tr < (s.tries.set tr ⟨x0.th, x0.first, i, x0.sn, x0.how, x0.rd, x0.wr⟩).length := by simpa using hx
  have hgb := h.geb
  have hth2 : (s.setL (s.tries.set tr ⟨x0.th, x0.first, i, x0.sn, x0.how, x0.rd, x0.wr⟩)).th t = ⟨1, sn, ws, tr⟩ := hth
  have e12 := fun j => ((hE2 j).cell 1).trans (show _ = some (.int .i64 8) from rfl)
  have f42 := fun j => ((hL2 j).c_x (j := 4) hx2 (by decide)).2
  have x42 := fun j => ((hL2 j).c_x (j := 4) hx2 (by decide)).1.trans (show _ = some (.int .i64 x0.how) from by simp only [St.setL, List.getElem_set_self, encT]; rfl)
  have hL3 : ∀ j, LookW B (((w1.drewN j).setCell ⟨g, off + tr * 7 + 2, none⟩ (.int .i64 i)).setCell ⟨g, off + tr * 7 + 4, none⟩ (.int .i64 8)) b ((s.setL (s.tries.set tr ⟨x0.th, x0.first, i, x0.sn, x0.how, x0.rd, x0.wr⟩)).setL ((s.tries.set tr ⟨x0.th, x0.first, i, x0.sn, x0.how, x0.rd, x0.wr⟩).set tr ⟨x0.th, x0.first, i, x0.sn, 8, x0.rd, x0.wr⟩)) n m (.slice (some ⟨g, off, none⟩) s.tries.length cap) := fun j => (hL2 j).setX hx2 (by decide) _ _ (by simp only [St.setL, List.getElem_set_self, encT]; rfl)
  have hE3 : ∀ j, Blk (((w1.drewN j).setCell ⟨g, off + tr * 7 + 2, none⟩ (.int .i64 i)).setCell ⟨g, off + tr * 7 + 4, none⟩ (.int .i64 8)) w.heap.size 27 #[.int .i64 t, .int .i64 8, .int .u64 ad, .int .u64 wd, .bool ow, .int .i64 er] := fun j => (hE2 j).far (p := ⟨g, off + tr * 7 + 4, none⟩) hge.symm _
  have hth3 : ((s.setL (s.tries.set tr ⟨x0.th, x0.first, i, x0.sn, x0.how, x0.rd, x0.wr⟩)).setL ((s.tries.set tr ⟨x0.th, x0.first, i, x0.sn, x0.how, x0.rd, x0.wr⟩).set tr ⟨x0.th, x0.first, i, x0.sn, 8, x0.rd, x0.wr⟩)).th t = ⟨1, sn, ws, tr⟩ := hth
  have c_how3 := fun j => (hL3 j).c_how ht (hth3)
  have c_tb3 := fun j => (hL3 j).c_tb (i := 21) (hw := 1) (k := 8) (a := 1) (by decide) (by decide) rfl (by decide)
  have e13 := fun j => ((hE3 j).cell 1).trans (show _ = some (.int .i64 8) from rfl)
  have fz52t43 := fun j => (hL3 j).fz (52 + t * 4)
  have hst : Hid (take s i ⟨t, 8, ad, wd, ow, er⟩ = ((s.setL (s.tries.set tr ⟨x0.th, x0.first, i, x0.sn, x0.how, x0.rd, x0.wr⟩)).setL ((s.tries.set tr ⟨x0.th, x0.first, i, x0.sn, x0.how, x0.rd, x0.wr⟩).set tr ⟨x0.th, x0.first, i, x0.sn, 8, x0.rd, x0.wr⟩)).setT t ⟨0, sn, ws, tr⟩) := Lib.hid (by rw [hup.out]; simp only [St.setT, St.setL, St.setN, St.setH, tkT, updT, tb, List.set_set]; simp)
  replace hL1 := Lib.hid hL1
  replace hL2 := Lib.hid hL2
  replace hL3 := Lib.hid hL3
  replace hth := Lib.hid hth
  replace hx0 := Lib.hid hx0
  unfold evV
  dsimp only at *
  clear h hs hn hE1 hE2 hth2 hup hx2 hE3 hth3 hcn
  go_enter Try.func57, Try.ntmps57
  go_wp2
  rw [hW1.out]
  refine wp_region_mixH (fun _ => True) [3, 3, 1, 3, 3, 3, 3] (List.range 7) (by kernel_rfl) (by kernel_rfl) (fun _ _ h => h) trivial ?_; (repeat (first | ((first | refine wpMixH_pure rfl rfl (fun K hK => ?_) | refine wpMixH_loc rfl rfl (fun K hK => ?_) | refine wpMixH_any rfl rfl (fun K hK => ?_)); go_simp; refine hK _ _ ?_; clear hK K) | (refine wpMixH_skip rfl (by go_simp) (fun K hK => ?_); go_simp; refine hK _ _ ?_; clear hK K) | fail)); refine wpMixH_nil (fun n1 => ?_)
  go_wp2
  refine wp_region_mixH (fun _ => True) [3, 3, 3, 1, 3, 3, 3, 1, 3, 3] (List.range 10) (by kernel_rfl) (by kernel_rfl) (fun _ _ h => h) trivial ?_; (repeat (first | ((first | refine wpMixH_pure rfl rfl (fun K hK => ?_) | refine wpMixH_loc rfl rfl (fun K hK => ?_) | refine wpMixH_any rfl rfl (fun K hK => ?_)); go_simp; refine hK _ _ ?_; clear hK K) | (refine wpMixH_skip rfl (by go_simp) (fun K hK => ?_); go_simp; refine hK _ _ ?_; clear hK K) | fail)); refine wpMixH_nil (fun n2 => ?_)
  go_wp2
  refine wp_region_mixH (fun _ => True) [3, 3, 3, 3, 3, 1, 3, 1, 3, 3, 3, 3, 1, 3, 3, 3, 2] (List.range 17) (by kernel_rfl) (by kernel_rfl) (fun _ _ h => h) trivial ?_
  repeat ((first | refine wpMixH_pure rfl rfl (fun K hK => ?_) | refine wpMixH_loc rfl rfl (fun K hK => ?_) | refine wpMixH_any rfl rfl (fun K hK => ?_)); go_simp; refine hK _ _ ?_; clear hK K)
  refine wpMixH_loud rfl rfl (fun n9 K hK => ?_)
  go_wp2
  refine hK _ _ (fun _ => trivial) ?_; clear hK K
  refine wpMixH_nil (fun n10 => ?_)
  go_wp2
  refine bodyPost_end (results_none rfl _ _ _) rfl ⟨rfl, ?_, ?_⟩
  · exact below_drewNs ((below_drewNs (((below_drewNs hb1.out _).setCell hgB _).setCell hgB _) _).setCell hgb _) _
  · refine ⟨m, (.slice (some ⟨g, off, none⟩) s.tries.length cap), ?_⟩
    rw [hst.out]
    have FIN : ∀ j j2 j3, LookW B ((((((w1.drewN j).setCell ⟨g, off + tr * 7 + 2, none⟩ (.int .i64 i)).setCell ⟨g, off + tr * 7 + 4, none⟩ (.int .i64 8)).drewN j2).setCell ⟨b, 52 + t * 4, none⟩ (.int .i64 (0 : Nat))).drewN j3) b (((s.setL (s.tries.set tr ⟨x0.th, x0.first, i, x0.sn, x0.how, x0.rd, x0.wr⟩)).setL ((s.tries.set tr ⟨x0.th, x0.first, i, x0.sn, x0.how, x0.rd, x0.wr⟩).set tr ⟨x0.th, x0.first, i, x0.sn, 8, x0.rd, x0.wr⟩)).setT t ⟨0, sn, ws, tr⟩) (n + 1) m (.slice (some ⟨g, off, none⟩) s.tries.length cap) := fun j j2 j3 => by
      have hfin := (((hL3.out j).drewN j2).setHow ht 0 (fun h => absurd h (by decide)))
      rw [show ((s.setL (s.tries.set tr ⟨x0.th, x0.first, i, x0.sn, x0.how, x0.rd, x0.wr⟩)).setL ((s.tries.set tr ⟨x0.th, x0.first, i, x0.sn, x0.how, x0.rd, x0.wr⟩).set tr ⟨x0.th, x0.first, i, x0.sn, 8, x0.rd, x0.wr⟩)).th t = _ from hth.out] at hfin
      exact (hfin.drewN j3).mono (Nat.le_succ _)
    exact FIN _ _ _
set_option maxRecDepth 100000 in
theorem take_fail1 (h : LookW B w b s n m tv) (hBw : B ≤ w.heap.size) (hs : StBd s n) (hn : n ≤ 1152921504606846976) {t i : Nat} {ad wd er : Int} {ow : Bool} (ht : t < 8) {sn : Int} {ws : List (Int × Int)} {tr : Nat} (hth : s.th t = ⟨1, sn, ws, tr⟩) :
    Calls Try.prog 57 #[.pointer (some ⟨b, 0, none⟩), .int .i64 i, evV ⟨t, 9, ad, wd, ow, er⟩] w fun x w' => x = .returned (.tuple #[]) ∧ Below B w w' ∧ ∃ m' tv', LookW B w' b (take s i ⟨t, 9, ad, wd, ow, er⟩) (n + 1) m' tv' := by
  have hb1 : Hid (Below B w (w.alloc (.cells #[.int .i64 t, .int .i64 9, .int .u64 ad, .int .u64 wd, .bool ow, .int .i64 er] 27))) := Lib.hid ((Below.refl _ w).alloc hBw _)
  have hL1 := h.alloc (.cells #[.int .i64 t, .int .i64 9, .int .u64 ad, .int .u64 wd, .bool ow, .int .i64 er] 27)
  have hE1 := Blk.new w 27 #[.int .i64 t, .int .i64 9, .int .u64 ad, .int .u64 wd, .bool ow, .int .i64 er]
  have hbe : b ≠ w.heap.size := Nat.ne_of_lt h.blk.lt
  have hx := hs.tr t (by unfold liveT; rw [hth]; simp)
  rw [hth] at hx
  dsimp only at hx
  have hcn := hs.cnt _ (List.getElem_mem hx)
  have hget := h.get
  obtain ⟨A, cap, rfl, hcap⟩ := h.tries.shape
  obtain ⟨g, off, rfl, hg, -⟩ := h.tries.cell encT_len (by decide) hx
  have hgB : B ≤ g := hget g (by simp [own, Value.ownBlock])
  have hge : g ≠ w.heap.size := Nat.ne_of_lt hg
  have hx' : (tr : Int) < (s.tries.length : Int) := by omega
  clear hcap hget hg
  generalize hW1 : w.alloc (.cells #[.int .i64 t, .int .i64 9, .int .u64 ad, .int .u64 wd, .bool ow, .int .i64 er] 27) = w1 at *
  replace hW1 := Lib.hid hW1
  have ht' : (t : Int) < 8 := by omega
  have c_how1 := hL1.c_how ht (hth)
  have c_tv1 := hL1.c_tv
  have c_tr1 := hL1.c_tr ht (hth)
  have e01 := (hE1.cell 0).trans (show _ = some (.int .i64 t) from rfl)
  have e11 := (hE1.cell 1).trans (show _ = some (.int .i64 9) from rfl)
  have f21 := (hL1.c_x (j := 2) hx (by decide)).2
  generalize hx0 : s.tries[tr] = x0 at *
  have x21 := (hL1.c_x (j := 2) hx (by decide)).1.trans (show _ = some (Value.int .i64 x0.last) from by rw [hx0]; rfl)
  have hup : Hid (take s i ⟨t, 9, ad, wd, ow, er⟩ = ⟨fun j => if j = t then tkT ⟨1, sn, ws, tr⟩ ⟨t, 9, ad, wd, ow, er⟩ s.tries.length else s.th j, if (9 : Int) = 6 ∧ 1 = 2 then wd else s.num, if (9 : Int) = 5 then t else if (9 : Int) = 6 ∧ 1 = 2 then -1 else s.hold, s.tries.set tr (updT x0 i ⟨t, 9, ad, wd, ow, er⟩)⟩) := Lib.hid ((take_in hth hx (by simp) (by simp) rfl).trans (by rw [hx0]))
  have hL2 : ∀ j, LookW B ((w1.drewN j).setCell ⟨g, off + tr * 7 + 2, none⟩ (.int .i64 i)) b (s.setL (s.tries.set tr ⟨x0.th, x0.first, i, x0.sn, x0.how, x0.rd, x0.wr⟩)) n m (.slice (some ⟨g, off, none⟩) s.tries.length cap) := fun j => (hL1.drewN j).setX hx (by decide) _ _ (by rw [hx0]; rfl)
  have hE2 : ∀ j, Blk ((w1.drewN j).setCell ⟨g, off + tr * 7 + 2, none⟩ (.int .i64 i)) w.heap.size 27 #[.int .i64 t, .int .i64 9, .int .u64 ad, .int .u64 wd, .bool ow, .int .i64 er] := fun j => (hE1.drewN j).far (p := ⟨g, off + tr * 7 + 2, none⟩) hge.symm _
  have hx2 : tr < (s.tries.set tr ⟨x0.th, x0.first, i, x0.sn, x0.how, x0.rd, x0.wr⟩).length := by simpa using hx
  have hgb := h.geb
  have hth2 : (s.setL (s.tries.set tr ⟨x0.th, x0.first, i, x0.sn, x0.how, x0.rd, x0.wr⟩)).th t = ⟨1, sn, ws, tr⟩ := hth
  have e12 := fun j => ((hE2 j).cell 1).trans (show _ = some (.int .i64 9) from rfl)
  have f42 := fun j => ((hL2 j).c_x (j := 4) hx2 (by decide)).2
  have x42 := fun j => ((hL2 j).c_x (j := 4) hx2 (by decide)).1.trans (show _ = some (.int .i64 x0.how) from by simp only [St.setL, List.getElem_set_self, encT]; rfl)
  have hL3 : ∀ j, LookW B (((w1.drewN j).setCell ⟨g, off + tr * 7 + 2, none⟩ (.int .i64 i)).setCell ⟨g, off + tr * 7 + 4, none⟩ (.int .i64 9)) b ((s.setL (s.tries.set tr ⟨x0.th, x0.first, i, x0.sn, x0.how, x0.rd, x0.wr⟩)).setL ((s.tries.set tr ⟨x0.th, x0.first, i, x0.sn, x0.how, x0.rd, x0.wr⟩).set tr ⟨x0.th, x0.first, i, x0.sn, 9, x0.rd, x0.wr⟩)) n m (.slice (some ⟨g, off, none⟩) s.tries.length cap) := fun j => (hL2 j).setX hx2 (by decide) _ _ (by simp only [St.setL, List.getElem_set_self, encT]; rfl)
  have hE3 : ∀ j, Blk (((w1.drewN j).setCell ⟨g, off + tr * 7 + 2, none⟩ (.int .i64 i)).setCell ⟨g, off + tr * 7 + 4, none⟩ (.int .i64 9)) w.heap.size 27 #[.int .i64 t, .int .i64 9, .int .u64 ad, .int .u64 wd, .bool ow, .int .i64 er] := fun j => (hE2 j).far (p := ⟨g, off + tr * 7 + 4, none⟩) hge.symm _
  have hth3 : ((s.setL (s.tries.set tr ⟨x0.th, x0.first, i, x0.sn, x0.how, x0.rd, x0.wr⟩)).setL ((s.tries.set tr ⟨x0.th, x0.first, i, x0.sn, x0.how, x0.rd, x0.wr⟩).set tr ⟨x0.th, x0.first, i, x0.sn, 9, x0.rd, x0.wr⟩)).th t = ⟨1, sn, ws, tr⟩ := hth
  have c_how3 := fun j => (hL3 j).c_how ht (hth3)
  have c_tb3 := fun j => (hL3 j).c_tb (i := 22) (hw := 1) (k := 9) (a := 4) (by decide) (by decide) rfl (by decide)
  have e13 := fun j => ((hE3 j).cell 1).trans (show _ = some (.int .i64 9) from rfl)
  have fz52t43 := fun j => (hL3 j).fz (52 + t * 4)
  have hst : Hid (take s i ⟨t, 9, ad, wd, ow, er⟩ = ((s.setL (s.tries.set tr ⟨x0.th, x0.first, i, x0.sn, x0.how, x0.rd, x0.wr⟩)).setL ((s.tries.set tr ⟨x0.th, x0.first, i, x0.sn, x0.how, x0.rd, x0.wr⟩).set tr ⟨x0.th, x0.first, i, x0.sn, 9, x0.rd, x0.wr⟩)).setT t ⟨3, sn, ws, tr⟩) := Lib.hid (by rw [hup.out]; simp only [St.setT, St.setL, St.setN, St.setH, tkT, updT, tb, List.set_set]; simp)
  replace hL1 := Lib.hid hL1
  replace hL2 := Lib.hid hL2
  replace hL3 := Lib.hid hL3
  replace hth := Lib.hid hth
  replace hx0 := Lib.hid hx0
  unfold evV
  dsimp only at *
  clear h hs hn hE1 hE2 hth2 hup hx2 hE3 hth3 hcn
  go_enter Try.func57, Try.ntmps57
  go_wp2
  rw [hW1.out]
  refine wp_region_mixH (fun _ => True) [3, 3, 1, 3, 3, 3, 3] (List.range 7) (by kernel_rfl) (by kernel_rfl) (fun _ _ h => h) trivial ?_; (repeat (first | ((first | refine wpMixH_pure rfl rfl (fun K hK => ?_) | refine wpMixH_loc rfl rfl (fun K hK => ?_) | refine wpMixH_any rfl rfl (fun K hK => ?_)); go_simp; refine hK _ _ ?_; clear hK K) | (refine wpMixH_skip rfl (by go_simp) (fun K hK => ?_); go_simp; refine hK _ _ ?_; clear hK K) | fail)); refine wpMixH_nil (fun n1 => ?_)
  go_wp2
  refine wp_region_mixH (fun _ => True) [3, 3, 3, 1, 3, 3, 3, 1, 3, 3] (List.range 10) (by kernel_rfl) (by kernel_rfl) (fun _ _ h => h) trivial ?_; (repeat (first | ((first | refine wpMixH_pure rfl rfl (fun K hK => ?_) | refine wpMixH_loc rfl rfl (fun K hK => ?_) | refine wpMixH_any rfl rfl (fun K hK => ?_)); go_simp; refine hK _ _ ?_; clear hK K) | (refine wpMixH_skip rfl (by go_simp) (fun K hK => ?_); go_simp; refine hK _ _ ?_; clear hK K) | fail)); refine wpMixH_nil (fun n2 => ?_)
  go_wp2
  refine wp_region_mixH (fun _ => True) [3, 3, 3, 3, 3, 1, 3, 1, 3, 3, 3, 3, 1, 3, 3, 3, 2] (List.range 17) (by kernel_rfl) (by kernel_rfl) (fun _ _ h => h) trivial ?_
  repeat ((first | refine wpMixH_pure rfl rfl (fun K hK => ?_) | refine wpMixH_loc rfl rfl (fun K hK => ?_) | refine wpMixH_any rfl rfl (fun K hK => ?_)); go_simp; refine hK _ _ ?_; clear hK K)
  refine wpMixH_loud rfl rfl (fun n9 K hK => ?_)
  go_wp2
  refine hK _ _ (fun _ => trivial) ?_; clear hK K
  refine wpMixH_nil (fun n10 => ?_)
  go_wp2
  refine bodyPost_end (results_none rfl _ _ _) rfl ⟨rfl, ?_, ?_⟩
  · exact below_drewNs ((below_drewNs (((below_drewNs hb1.out _).setCell hgB _).setCell hgB _) _).setCell hgb _) _
  · refine ⟨m, (.slice (some ⟨g, off, none⟩) s.tries.length cap), ?_⟩
    rw [hst.out]
    have FIN : ∀ j j2 j3, LookW B ((((((w1.drewN j).setCell ⟨g, off + tr * 7 + 2, none⟩ (.int .i64 i)).setCell ⟨g, off + tr * 7 + 4, none⟩ (.int .i64 9)).drewN j2).setCell ⟨b, 52 + t * 4, none⟩ (.int .i64 (3 : Nat))).drewN j3) b (((s.setL (s.tries.set tr ⟨x0.th, x0.first, i, x0.sn, x0.how, x0.rd, x0.wr⟩)).setL ((s.tries.set tr ⟨x0.th, x0.first, i, x0.sn, x0.how, x0.rd, x0.wr⟩).set tr ⟨x0.th, x0.first, i, x0.sn, 9, x0.rd, x0.wr⟩)).setT t ⟨3, sn, ws, tr⟩) (n + 1) m (.slice (some ⟨g, off, none⟩) s.tries.length cap) := fun j j2 j3 => by
      have hfin := (((hL3.out j).drewN j2).setHow ht 3 (fun h => absurd h (by decide)))
      rw [show ((s.setL (s.tries.set tr ⟨x0.th, x0.first, i, x0.sn, x0.how, x0.rd, x0.wr⟩)).setL ((s.tries.set tr ⟨x0.th, x0.first, i, x0.sn, x0.how, x0.rd, x0.wr⟩).set tr ⟨x0.th, x0.first, i, x0.sn, 9, x0.rd, x0.wr⟩)).th t = _ from hth.out] at hfin
      exact (hfin.drewN j3).mono (Nat.le_succ _)
    exact FIN _ _ _
set_option maxRecDepth 100000 in
theorem take_commit1 (h : LookW B w b s n m tv) (hBw : B ≤ w.heap.size) (hs : StBd s n) (hn : n ≤ 1152921504606846976) {t i : Nat} {ad wd er : Int} {ow : Bool} (ht : t < 8) {sn : Int} {ws : List (Int × Int)} {tr : Nat} (hth : s.th t = ⟨1, sn, ws, tr⟩) :
    Calls Try.prog 57 #[.pointer (some ⟨b, 0, none⟩), .int .i64 i, evV ⟨t, 6, ad, wd, ow, er⟩] w fun x w' => x = .returned (.tuple #[]) ∧ Below B w w' ∧ ∃ m' tv', LookW B w' b (take s i ⟨t, 6, ad, wd, ow, er⟩) (n + 1) m' tv' := by
  have hb1 : Hid (Below B w (w.alloc (.cells #[.int .i64 t, .int .i64 6, .int .u64 ad, .int .u64 wd, .bool ow, .int .i64 er] 27))) := Lib.hid ((Below.refl _ w).alloc hBw _)
  have hL1 := h.alloc (.cells #[.int .i64 t, .int .i64 6, .int .u64 ad, .int .u64 wd, .bool ow, .int .i64 er] 27)
  have hE1 := Blk.new w 27 #[.int .i64 t, .int .i64 6, .int .u64 ad, .int .u64 wd, .bool ow, .int .i64 er]
  have hbe : b ≠ w.heap.size := Nat.ne_of_lt h.blk.lt
  have hx := hs.tr t (by unfold liveT; rw [hth]; simp)
  rw [hth] at hx
  dsimp only at hx
  have hcn := hs.cnt _ (List.getElem_mem hx)
  have hget := h.get
  obtain ⟨A, cap, rfl, hcap⟩ := h.tries.shape
  obtain ⟨g, off, rfl, hg, -⟩ := h.tries.cell encT_len (by decide) hx
  have hgB : B ≤ g := hget g (by simp [own, Value.ownBlock])
  have hge : g ≠ w.heap.size := Nat.ne_of_lt hg
  have hx' : (tr : Int) < (s.tries.length : Int) := by omega
  clear hcap hget hg
  generalize hW1 : w.alloc (.cells #[.int .i64 t, .int .i64 6, .int .u64 ad, .int .u64 wd, .bool ow, .int .i64 er] 27) = w1 at *
  replace hW1 := Lib.hid hW1
  have ht' : (t : Int) < 8 := by omega
  have c_how1 := hL1.c_how ht (hth)
  have c_tv1 := hL1.c_tv
  have c_tr1 := hL1.c_tr ht (hth)
  have e01 := (hE1.cell 0).trans (show _ = some (.int .i64 t) from rfl)
  have e11 := (hE1.cell 1).trans (show _ = some (.int .i64 6) from rfl)
  have f21 := (hL1.c_x (j := 2) hx (by decide)).2
  generalize hx0 : s.tries[tr] = x0 at *
  have x21 := (hL1.c_x (j := 2) hx (by decide)).1.trans (show _ = some (Value.int .i64 x0.last) from by rw [hx0]; rfl)
  have hup : Hid (take s i ⟨t, 6, ad, wd, ow, er⟩ = ⟨fun j => if j = t then tkT ⟨1, sn, ws, tr⟩ ⟨t, 6, ad, wd, ow, er⟩ s.tries.length else s.th j, if (6 : Int) = 6 ∧ 1 = 2 then wd else s.num, if (6 : Int) = 5 then t else if (6 : Int) = 6 ∧ 1 = 2 then -1 else s.hold, s.tries.set tr (updT x0 i ⟨t, 6, ad, wd, ow, er⟩)⟩) := Lib.hid ((take_in hth hx (by simp) (by simp) rfl).trans (by rw [hx0]))
  have hL2 : ∀ j, LookW B ((w1.drewN j).setCell ⟨g, off + tr * 7 + 2, none⟩ (.int .i64 i)) b (s.setL (s.tries.set tr ⟨x0.th, x0.first, i, x0.sn, x0.how, x0.rd, x0.wr⟩)) n m (.slice (some ⟨g, off, none⟩) s.tries.length cap) := fun j => (hL1.drewN j).setX hx (by decide) _ _ (by rw [hx0]; rfl)
  have hE2 : ∀ j, Blk ((w1.drewN j).setCell ⟨g, off + tr * 7 + 2, none⟩ (.int .i64 i)) w.heap.size 27 #[.int .i64 t, .int .i64 6, .int .u64 ad, .int .u64 wd, .bool ow, .int .i64 er] := fun j => (hE1.drewN j).far (p := ⟨g, off + tr * 7 + 2, none⟩) hge.symm _
  have hx2 : tr < (s.tries.set tr ⟨x0.th, x0.first, i, x0.sn, x0.how, x0.rd, x0.wr⟩).length := by simpa using hx
  have hgb := h.geb
  have hth2 : (s.setL (s.tries.set tr ⟨x0.th, x0.first, i, x0.sn, x0.how, x0.rd, x0.wr⟩)).th t = ⟨1, sn, ws, tr⟩ := hth
  have e12 := fun j => ((hE2 j).cell 1).trans (show _ = some (.int .i64 6) from rfl)
  have f42 := fun j => ((hL2 j).c_x (j := 4) hx2 (by decide)).2
  have x42 := fun j => ((hL2 j).c_x (j := 4) hx2 (by decide)).1.trans (show _ = some (.int .i64 x0.how) from by simp only [St.setL, List.getElem_set_self, encT]; rfl)
  have hL3 : ∀ j, LookW B (((w1.drewN j).setCell ⟨g, off + tr * 7 + 2, none⟩ (.int .i64 i)).setCell ⟨g, off + tr * 7 + 4, none⟩ (.int .i64 6)) b ((s.setL (s.tries.set tr ⟨x0.th, x0.first, i, x0.sn, x0.how, x0.rd, x0.wr⟩)).setL ((s.tries.set tr ⟨x0.th, x0.first, i, x0.sn, x0.how, x0.rd, x0.wr⟩).set tr ⟨x0.th, x0.first, i, x0.sn, 6, x0.rd, x0.wr⟩)) n m (.slice (some ⟨g, off, none⟩) s.tries.length cap) := fun j => (hL2 j).setX hx2 (by decide) _ _ (by simp only [St.setL, List.getElem_set_self, encT]; rfl)
  have hE3 : ∀ j, Blk (((w1.drewN j).setCell ⟨g, off + tr * 7 + 2, none⟩ (.int .i64 i)).setCell ⟨g, off + tr * 7 + 4, none⟩ (.int .i64 6)) w.heap.size 27 #[.int .i64 t, .int .i64 6, .int .u64 ad, .int .u64 wd, .bool ow, .int .i64 er] := fun j => (hE2 j).far (p := ⟨g, off + tr * 7 + 4, none⟩) hge.symm _
  have hth3 : ((s.setL (s.tries.set tr ⟨x0.th, x0.first, i, x0.sn, x0.how, x0.rd, x0.wr⟩)).setL ((s.tries.set tr ⟨x0.th, x0.first, i, x0.sn, x0.how, x0.rd, x0.wr⟩).set tr ⟨x0.th, x0.first, i, x0.sn, 6, x0.rd, x0.wr⟩)).th t = ⟨1, sn, ws, tr⟩ := hth
  have c_how3 := fun j => (hL3 j).c_how ht (hth3)
  have c_tb3 := fun j => (hL3 j).c_tb (i := 19) (hw := 1) (k := 6) (a := 1) (by decide) (by decide) rfl (by decide)
  have e13 := fun j => ((hE3 j).cell 1).trans (show _ = some (.int .i64 6) from rfl)
  have fz52t43 := fun j => (hL3 j).fz (52 + t * 4)
  have hst : Hid (take s i ⟨t, 6, ad, wd, ow, er⟩ = ((s.setL (s.tries.set tr ⟨x0.th, x0.first, i, x0.sn, x0.how, x0.rd, x0.wr⟩)).setL ((s.tries.set tr ⟨x0.th, x0.first, i, x0.sn, x0.how, x0.rd, x0.wr⟩).set tr ⟨x0.th, x0.first, i, x0.sn, 6, x0.rd, x0.wr⟩)).setT t ⟨0, sn, ws, tr⟩) := Lib.hid (by rw [hup.out]; simp only [St.setT, St.setL, St.setN, St.setH, tkT, updT, tb, List.set_set]; simp)
  replace hL1 := Lib.hid hL1
  replace hL2 := Lib.hid hL2
  replace hL3 := Lib.hid hL3
  replace hth := Lib.hid hth
  replace hx0 := Lib.hid hx0
  unfold evV
  dsimp only at *
  clear h hs hn hE1 hE2 hth2 hup hx2 hE3 hth3 hcn
  go_enter Try.func57, Try.ntmps57
  go_wp2
  rw [hW1.out]
  refine wp_region_mixH (fun _ => True) [3, 3, 1, 3, 3, 3, 3] (List.range 7) (by kernel_rfl) (by kernel_rfl) (fun _ _ h => h) trivial ?_; (repeat (first | ((first | refine wpMixH_pure rfl rfl (fun K hK => ?_) | refine wpMixH_loc rfl rfl (fun K hK => ?_) | refine wpMixH_any rfl rfl (fun K hK => ?_)); go_simp; refine hK _ _ ?_; clear hK K) | (refine wpMixH_skip rfl (by go_simp) (fun K hK => ?_); go_simp; refine hK _ _ ?_; clear hK K) | fail)); refine wpMixH_nil (fun n1 => ?_)
  go_wp2
  refine wp_region_mixH (fun _ => True) [3, 3, 3, 1, 3, 3, 3, 1, 3, 3] (List.range 10) (by kernel_rfl) (by kernel_rfl) (fun _ _ h => h) trivial ?_; (repeat (first | ((first | refine wpMixH_pure rfl rfl (fun K hK => ?_) | refine wpMixH_loc rfl rfl (fun K hK => ?_) | refine wpMixH_any rfl rfl (fun K hK => ?_)); go_simp; refine hK _ _ ?_; clear hK K) | (refine wpMixH_skip rfl (by go_simp) (fun K hK => ?_); go_simp; refine hK _ _ ?_; clear hK K) | fail)); refine wpMixH_nil (fun n2 => ?_)
  go_wp2
  refine wp_region_mixH (fun _ => True) [3, 3, 3, 3, 3, 1, 3, 1, 3, 3, 3, 3, 1, 3, 3, 3, 2] (List.range 17) (by kernel_rfl) (by kernel_rfl) (fun _ _ h => h) trivial ?_
  repeat ((first | refine wpMixH_pure rfl rfl (fun K hK => ?_) | refine wpMixH_loc rfl rfl (fun K hK => ?_) | refine wpMixH_any rfl rfl (fun K hK => ?_)); go_simp; refine hK _ _ ?_; clear hK K)
  refine wpMixH_loud rfl rfl (fun n9 K hK => ?_)
  go_wp2
  refine hK _ _ (fun _ => trivial) ?_; clear hK K
  refine wpMixH_nil (fun n10 => ?_)
  go_wp2
  refine bodyPost_end (results_none rfl _ _ _) rfl ⟨rfl, ?_, ?_⟩
  · exact below_drewNs ((below_drewNs (((below_drewNs hb1.out _).setCell hgB _).setCell hgB _) _).setCell hgb _) _
  · refine ⟨m, (.slice (some ⟨g, off, none⟩) s.tries.length cap), ?_⟩
    rw [hst.out]
    have FIN : ∀ j j2 j3, LookW B ((((((w1.drewN j).setCell ⟨g, off + tr * 7 + 2, none⟩ (.int .i64 i)).setCell ⟨g, off + tr * 7 + 4, none⟩ (.int .i64 6)).drewN j2).setCell ⟨b, 52 + t * 4, none⟩ (.int .i64 (0 : Nat))).drewN j3) b (((s.setL (s.tries.set tr ⟨x0.th, x0.first, i, x0.sn, x0.how, x0.rd, x0.wr⟩)).setL ((s.tries.set tr ⟨x0.th, x0.first, i, x0.sn, x0.how, x0.rd, x0.wr⟩).set tr ⟨x0.th, x0.first, i, x0.sn, 6, x0.rd, x0.wr⟩)).setT t ⟨0, sn, ws, tr⟩) (n + 1) m (.slice (some ⟨g, off, none⟩) s.tries.length cap) := fun j j2 j3 => by
      have hfin := (((hL3.out j).drewN j2).setHow ht 0 (fun h => absurd h (by decide)))
      rw [show ((s.setL (s.tries.set tr ⟨x0.th, x0.first, i, x0.sn, x0.how, x0.rd, x0.wr⟩)).setL ((s.tries.set tr ⟨x0.th, x0.first, i, x0.sn, x0.how, x0.rd, x0.wr⟩).set tr ⟨x0.th, x0.first, i, x0.sn, 6, x0.rd, x0.wr⟩)).th t = _ from hth.out] at hfin
      exact (hfin.drewN j3).mono (Nat.le_succ _)
    exact FIN _ _ _
set_option maxRecDepth 100000 in
theorem take_commit2 (h : LookW B w b s n m tv) (hBw : B ≤ w.heap.size) (hs : StBd s n) (hn : n ≤ 1152921504606846976) {t i : Nat} {ad wd er : Int} {ow : Bool} (ht : t < 8) {sn : Int} {ws : List (Int × Int)} {tr : Nat} (hth : s.th t = ⟨2, sn, ws, tr⟩) :
    Calls Try.prog 57 #[.pointer (some ⟨b, 0, none⟩), .int .i64 i, evV ⟨t, 6, ad, wd, ow, er⟩] w fun x w' => x = .returned (.tuple #[]) ∧ Below B w w' ∧ ∃ m' tv', LookW B w' b (take s i ⟨t, 6, ad, wd, ow, er⟩) (n + 1) m' tv' := by
  have hb1 : Hid (Below B w (w.alloc (.cells #[.int .i64 t, .int .i64 6, .int .u64 ad, .int .u64 wd, .bool ow, .int .i64 er] 27))) := Lib.hid ((Below.refl _ w).alloc hBw _)
  have hL1 := h.alloc (.cells #[.int .i64 t, .int .i64 6, .int .u64 ad, .int .u64 wd, .bool ow, .int .i64 er] 27)
  have hE1 := Blk.new w 27 #[.int .i64 t, .int .i64 6, .int .u64 ad, .int .u64 wd, .bool ow, .int .i64 er]
  have hbe : b ≠ w.heap.size := Nat.ne_of_lt h.blk.lt
  have hx := hs.tr t (by unfold liveT; rw [hth]; simp)
  rw [hth] at hx
  dsimp only at hx
  have hcn := hs.cnt _ (List.getElem_mem hx)
  have hget := h.get
  obtain ⟨A, cap, rfl, hcap⟩ := h.tries.shape
  obtain ⟨g, off, rfl, hg, -⟩ := h.tries.cell encT_len (by decide) hx
  have hgB : B ≤ g := hget g (by simp [own, Value.ownBlock])
  have hge : g ≠ w.heap.size := Nat.ne_of_lt hg
  have hx' : (tr : Int) < (s.tries.length : Int) := by omega
  clear hcap hget hg
  generalize hW1 : w.alloc (.cells #[.int .i64 t, .int .i64 6, .int .u64 ad, .int .u64 wd, .bool ow, .int .i64 er] 27) = w1 at *
  replace hW1 := Lib.hid hW1
  have ht' : (t : Int) < 8 := by omega
  have c_how1 := hL1.c_how ht (hth)
  have c_tv1 := hL1.c_tv
  have c_tr1 := hL1.c_tr ht (hth)
  have e01 := (hE1.cell 0).trans (show _ = some (.int .i64 t) from rfl)
  have e11 := (hE1.cell 1).trans (show _ = some (.int .i64 6) from rfl)
  have f21 := (hL1.c_x (j := 2) hx (by decide)).2
  generalize hx0 : s.tries[tr] = x0 at *
  have x21 := (hL1.c_x (j := 2) hx (by decide)).1.trans (show _ = some (Value.int .i64 x0.last) from by rw [hx0]; rfl)
  have hup : Hid (take s i ⟨t, 6, ad, wd, ow, er⟩ = ⟨fun j => if j = t then tkT ⟨2, sn, ws, tr⟩ ⟨t, 6, ad, wd, ow, er⟩ s.tries.length else s.th j, if (6 : Int) = 6 ∧ 2 = 2 then wd else s.num, if (6 : Int) = 5 then t else if (6 : Int) = 6 ∧ 2 = 2 then -1 else s.hold, s.tries.set tr (updT x0 i ⟨t, 6, ad, wd, ow, er⟩)⟩) := Lib.hid ((take_in hth hx (by simp) (by simp) rfl).trans (by rw [hx0]))
  have hL2 : ∀ j, LookW B ((w1.drewN j).setCell ⟨g, off + tr * 7 + 2, none⟩ (.int .i64 i)) b (s.setL (s.tries.set tr ⟨x0.th, x0.first, i, x0.sn, x0.how, x0.rd, x0.wr⟩)) n m (.slice (some ⟨g, off, none⟩) s.tries.length cap) := fun j => (hL1.drewN j).setX hx (by decide) _ _ (by rw [hx0]; rfl)
  have hE2 : ∀ j, Blk ((w1.drewN j).setCell ⟨g, off + tr * 7 + 2, none⟩ (.int .i64 i)) w.heap.size 27 #[.int .i64 t, .int .i64 6, .int .u64 ad, .int .u64 wd, .bool ow, .int .i64 er] := fun j => (hE1.drewN j).far (p := ⟨g, off + tr * 7 + 2, none⟩) hge.symm _
  have hx2 : tr < (s.tries.set tr ⟨x0.th, x0.first, i, x0.sn, x0.how, x0.rd, x0.wr⟩).length := by simpa using hx
  have hgb := h.geb
  have hth2 : (s.setL (s.tries.set tr ⟨x0.th, x0.first, i, x0.sn, x0.how, x0.rd, x0.wr⟩)).th t = ⟨2, sn, ws, tr⟩ := hth
  have e12 := fun j => ((hE2 j).cell 1).trans (show _ = some (.int .i64 6) from rfl)
  have f42 := fun j => ((hL2 j).c_x (j := 4) hx2 (by decide)).2
  have x42 := fun j => ((hL2 j).c_x (j := 4) hx2 (by decide)).1.trans (show _ = some (.int .i64 x0.how) from by simp only [St.setL, List.getElem_set_self, encT]; rfl)
  have c_how2 := fun j => (hL2 j).c_how ht (hth2)
  have hL3 : ∀ j, LookW B (((w1.drewN j).setCell ⟨g, off + tr * 7 + 2, none⟩ (.int .i64 i)).setCell ⟨g, off + tr * 7 + 4, none⟩ (.int .i64 6)) b ((s.setL (s.tries.set tr ⟨x0.th, x0.first, i, x0.sn, x0.how, x0.rd, x0.wr⟩)).setL ((s.tries.set tr ⟨x0.th, x0.first, i, x0.sn, x0.how, x0.rd, x0.wr⟩).set tr ⟨x0.th, x0.first, i, x0.sn, 6, x0.rd, x0.wr⟩)) n m (.slice (some ⟨g, off, none⟩) s.tries.length cap) := fun j => (hL2 j).setX hx2 (by decide) _ _ (by simp only [St.setL, List.getElem_set_self, encT]; rfl)
  have hE3 : ∀ j, Blk (((w1.drewN j).setCell ⟨g, off + tr * 7 + 2, none⟩ (.int .i64 i)).setCell ⟨g, off + tr * 7 + 4, none⟩ (.int .i64 6)) w.heap.size 27 #[.int .i64 t, .int .i64 6, .int .u64 ad, .int .u64 wd, .bool ow, .int .i64 er] := fun j => (hE2 j).far (p := ⟨g, off + tr * 7 + 4, none⟩) hge.symm _
  have hth3 : ((s.setL (s.tries.set tr ⟨x0.th, x0.first, i, x0.sn, x0.how, x0.rd, x0.wr⟩)).setL ((s.tries.set tr ⟨x0.th, x0.first, i, x0.sn, x0.how, x0.rd, x0.wr⟩).set tr ⟨x0.th, x0.first, i, x0.sn, 6, x0.rd, x0.wr⟩)).th t = ⟨2, sn, ws, tr⟩ := hth
  have c_how3 := fun j => (hL3 j).c_how ht (hth3)
  have e33 := fun j => ((hE3 j).cell 3).trans (show _ = some (.int .u64 wd) from rfl)
  have fz843 := fun j => (hL3 j).fz (84)
  have c_num3 := fun j => (hL3 j).c_num
  have hL4 : ∀ j, LookW B ((((w1.drewN j).setCell ⟨g, off + tr * 7 + 2, none⟩ (.int .i64 i)).setCell ⟨g, off + tr * 7 + 4, none⟩ (.int .i64 6)).setCell ⟨b, 84, none⟩ (.int .u64 wd)) b (((s.setL (s.tries.set tr ⟨x0.th, x0.first, i, x0.sn, x0.how, x0.rd, x0.wr⟩)).setL ((s.tries.set tr ⟨x0.th, x0.first, i, x0.sn, x0.how, x0.rd, x0.wr⟩).set tr ⟨x0.th, x0.first, i, x0.sn, 6, x0.rd, x0.wr⟩)).setN wd) n m (.slice (some ⟨g, off, none⟩) s.tries.length cap) := fun j => (hL3 j).setNum wd
  have hE4 : ∀ j, Blk ((((w1.drewN j).setCell ⟨g, off + tr * 7 + 2, none⟩ (.int .i64 i)).setCell ⟨g, off + tr * 7 + 4, none⟩ (.int .i64 6)).setCell ⟨b, 84, none⟩ (.int .u64 wd)) w.heap.size 27 #[.int .i64 t, .int .i64 6, .int .u64 ad, .int .u64 wd, .bool ow, .int .i64 er] := fun j => (hE3 j).far (p := ⟨b, 84, none⟩) hbe.symm _
  have hL5 : ∀ j, LookW B (((((w1.drewN j).setCell ⟨g, off + tr * 7 + 2, none⟩ (.int .i64 i)).setCell ⟨g, off + tr * 7 + 4, none⟩ (.int .i64 6)).setCell ⟨b, 84, none⟩ (.int .u64 wd)).setCell ⟨b, 85, none⟩ (.int .i64 (-1))) b ((((s.setL (s.tries.set tr ⟨x0.th, x0.first, i, x0.sn, x0.how, x0.rd, x0.wr⟩)).setL ((s.tries.set tr ⟨x0.th, x0.first, i, x0.sn, x0.how, x0.rd, x0.wr⟩).set tr ⟨x0.th, x0.first, i, x0.sn, 6, x0.rd, x0.wr⟩)).setN wd).setH (-1)) n m (.slice (some ⟨g, off, none⟩) s.tries.length cap) := fun j => (hL4 j).setHold (-1)
  have hE5 : ∀ j, Blk (((((w1.drewN j).setCell ⟨g, off + tr * 7 + 2, none⟩ (.int .i64 i)).setCell ⟨g, off + tr * 7 + 4, none⟩ (.int .i64 6)).setCell ⟨b, 84, none⟩ (.int .u64 wd)).setCell ⟨b, 85, none⟩ (.int .i64 (-1))) w.heap.size 27 #[.int .i64 t, .int .i64 6, .int .u64 ad, .int .u64 wd, .bool ow, .int .i64 er] := fun j => (hE4 j).far (p := ⟨b, 85, none⟩) hbe.symm _
  have hth5 : ((((s.setL (s.tries.set tr ⟨x0.th, x0.first, i, x0.sn, x0.how, x0.rd, x0.wr⟩)).setL ((s.tries.set tr ⟨x0.th, x0.first, i, x0.sn, x0.how, x0.rd, x0.wr⟩).set tr ⟨x0.th, x0.first, i, x0.sn, 6, x0.rd, x0.wr⟩)).setN wd).setH (-1)).th t = ⟨2, sn, ws, tr⟩ := hth
  have fz854 := fun j => (hL4 j).fz (85)
  have c_hold4 := fun j => (hL4 j).c_hold
  have c_how5 := fun j => (hL5 j).c_how ht (hth5)
  have c_tb5 := fun j => (hL5 j).c_tb (i := 32) (hw := 2) (k := 6) (a := 1) (by decide) (by decide) rfl (by decide)
  have e15 := fun j => ((hE5 j).cell 1).trans (show _ = some (.int .i64 6) from rfl)
  have fz52t45 := fun j => (hL5 j).fz (52 + t * 4)
  have hst : Hid (take s i ⟨t, 6, ad, wd, ow, er⟩ = ((((s.setL (s.tries.set tr ⟨x0.th, x0.first, i, x0.sn, x0.how, x0.rd, x0.wr⟩)).setL ((s.tries.set tr ⟨x0.th, x0.first, i, x0.sn, x0.how, x0.rd, x0.wr⟩).set tr ⟨x0.th, x0.first, i, x0.sn, 6, x0.rd, x0.wr⟩)).setN wd).setH (-1)).setT t ⟨0, sn, ws, tr⟩) := Lib.hid (by rw [hup.out]; simp only [St.setT, St.setL, St.setN, St.setH, tkT, updT, tb, List.set_set]; simp)
  replace hL1 := Lib.hid hL1
  replace hL2 := Lib.hid hL2
  replace hL3 := Lib.hid hL3
  replace hL4 := Lib.hid hL4
  replace hL5 := Lib.hid hL5
  replace hth := Lib.hid hth
  replace hx0 := Lib.hid hx0
  unfold evV
  dsimp only at *
  clear h hs hn hE1 hE2 hth2 hup hx2 hE3 hth3 hE4 hE5 hth5 hcn
  go_enter Try.func57, Try.ntmps57
  go_wp2
  rw [hW1.out]
  refine wp_region_mixH (fun _ => True) [3, 3, 1, 3, 3, 3, 3] (List.range 7) (by kernel_rfl) (by kernel_rfl) (fun _ _ h => h) trivial ?_; (repeat (first | ((first | refine wpMixH_pure rfl rfl (fun K hK => ?_) | refine wpMixH_loc rfl rfl (fun K hK => ?_) | refine wpMixH_any rfl rfl (fun K hK => ?_)); go_simp; refine hK _ _ ?_; clear hK K) | (refine wpMixH_skip rfl (by go_simp) (fun K hK => ?_); go_simp; refine hK _ _ ?_; clear hK K) | fail)); refine wpMixH_nil (fun n1 => ?_)
  go_wp2
  refine wp_region_mixH (fun _ => True) [3, 3, 3, 1, 3, 3, 3, 1, 3, 3] (List.range 10) (by kernel_rfl) (by kernel_rfl) (fun _ _ h => h) trivial ?_; (repeat (first | ((first | refine wpMixH_pure rfl rfl (fun K hK => ?_) | refine wpMixH_loc rfl rfl (fun K hK => ?_) | refine wpMixH_any rfl rfl (fun K hK => ?_)); go_simp; refine hK _ _ ?_; clear hK K) | (refine wpMixH_skip rfl (by go_simp) (fun K hK => ?_); go_simp; refine hK _ _ ?_; clear hK K) | fail)); refine wpMixH_nil (fun n2 => ?_)
  go_wp2
  refine wp_region_mixH (fun _ => True) [3, 3, 3, 3, 3, 1, 3, 1, 3, 3, 3, 3, 1, 3, 3, 3, 2] (List.range 17) (by kernel_rfl) (by kernel_rfl) (fun _ _ h => h) trivial ?_
  repeat ((first | refine wpMixH_pure rfl rfl (fun K hK => ?_) | refine wpMixH_loc rfl rfl (fun K hK => ?_) | refine wpMixH_any rfl rfl (fun K hK => ?_)); go_simp; refine hK _ _ ?_; clear hK K)
  refine wpMixH_loud rfl rfl (fun n9 K hK => ?_)
  go_wp2
  refine hK _ _ (fun _ => trivial) ?_; clear hK K
  refine wpMixH_nil (fun n10 => ?_)
  go_wp2
  refine bodyPost_end (results_none rfl _ _ _) rfl ⟨rfl, ?_, ?_⟩
  · exact below_drewNs ((below_drewNs (((((below_drewNs hb1.out _).setCell hgB _).setCell hgB _).setCell hgb _).setCell hgb _) _).setCell hgb _) _
  · refine ⟨m, (.slice (some ⟨g, off, none⟩) s.tries.length cap), ?_⟩
    rw [hst.out]
    have FIN : ∀ j j2 j3, LookW B ((((((((w1.drewN j).setCell ⟨g, off + tr * 7 + 2, none⟩ (.int .i64 i)).setCell ⟨g, off + tr * 7 + 4, none⟩ (.int .i64 6)).setCell ⟨b, 84, none⟩ (.int .u64 wd)).setCell ⟨b, 85, none⟩ (.int .i64 (-1))).drewN j2).setCell ⟨b, 52 + t * 4, none⟩ (.int .i64 (0 : Nat))).drewN j3) b (((((s.setL (s.tries.set tr ⟨x0.th, x0.first, i, x0.sn, x0.how, x0.rd, x0.wr⟩)).setL ((s.tries.set tr ⟨x0.th, x0.first, i, x0.sn, x0.how, x0.rd, x0.wr⟩).set tr ⟨x0.th, x0.first, i, x0.sn, 6, x0.rd, x0.wr⟩)).setN wd).setH (-1)).setT t ⟨0, sn, ws, tr⟩) (n + 1) m (.slice (some ⟨g, off, none⟩) s.tries.length cap) := fun j j2 j3 => by
      have hfin := (((hL5.out j).drewN j2).setHow ht 0 (fun h => absurd h (by decide)))
      rw [show ((((s.setL (s.tries.set tr ⟨x0.th, x0.first, i, x0.sn, x0.how, x0.rd, x0.wr⟩)).setL ((s.tries.set tr ⟨x0.th, x0.first, i, x0.sn, x0.how, x0.rd, x0.wr⟩).set tr ⟨x0.th, x0.first, i, x0.sn, 6, x0.rd, x0.wr⟩)).setN wd).setH (-1)).th t = _ from hth.out] at hfin
      exact (hfin.drewN j3).mono (Nat.le_succ _)
    exact FIN _ _ _
end
end Go.Proofs.Yteoebfjhadmnbaa
