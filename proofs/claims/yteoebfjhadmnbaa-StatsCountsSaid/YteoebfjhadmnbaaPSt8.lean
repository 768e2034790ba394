/- (*events.look).take by contract: kind by kind (printed by ev/mktake.py). -/
import Derived.Test.YteoebfjhadmnbaaPSt3
import Derived.Test.YteoebfjhadmnbaaPSt6
namespace Go.Proofs.Yteoebfjhadmnbaa
open Go.RowKit
set_option maxHeartbeats 4000000
set_option linter.unusedVariables false
set_option linter.unusedSimpArgs false
section
variable {B b n : Nat} {w : World} {s : St} {m : Nat → Option Nat} {tv : Value}
set_option maxRecDepth 100000 in
theorem take_locked (h : LookW B w b s n m tv) (hBw : B ≤ w.heap.size) (hs : StBd s n) (hn : n ≤ 1152921504606846976) {t i : Nat} {ad wd er : Int} {ow : Bool} (ht : t < 8) {sn : Int} {ws : List (Int × Int)} {tr : Nat} (hth : s.th t = ⟨1, sn, ws, tr⟩) :
    Calls Try.prog 57 #[.pointer (some ⟨b, 0, none⟩), .int .i64 i, evV ⟨t, 5, ad, wd, ow, er⟩] w fun x w' => x = .returned (.tuple #[]) ∧ Below B w w' ∧ ∃ m' tv', LookW B w' b (take s i ⟨t, 5, ad, wd, ow, er⟩) (n + 1) m' tv' := by
  have hb1 : Hid (Below B w (w.alloc (.cells #[.int .i64 t, .int .i64 5, .int .u64 ad, .int .u64 wd, .bool ow, .int .i64 er] 27))) := Lib.hid ((Below.refl _ w).alloc hBw _)
  have hL1 := h.alloc (.cells #[.int .i64 t, .int .i64 5, .int .u64 ad, .int .u64 wd, .bool ow, .int .i64 er] 27)
  have hE1 := Blk.new w 27 #[.int .i64 t, .int .i64 5, .int .u64 ad, .int .u64 wd, .bool ow, .int .i64 er]
  have hbe : b ≠ w.heap.size := Nat.ne_of_lt h.blk.lt
  have hx := hs.tr t (by unfold liveT; rw [hth]; simp)
  rw [hth] at hx
  dsimp only at hx
  have hcn := hs.cnt _ (List.getElem_mem hx)
  have hget := h.get
  obtain ⟨A, cap, rfl, hcap⟩ := h.tries.shape
  obtain ⟨g, off, rfl, hg, -⟩ := h.tries.cell encT_len (by decide) hx
  have hgB : B ≤ g := hget g (by simp [own, Value.ownBlock])
  have hge : g ≠ w.heap.size := Nat.ne_of_lt hg
  have hx' : (tr : Int) < (s.tries.length : Int) := by omega
  clear hcap hget hg
  generalize hW1 : w.alloc (.cells #[.int .i64 t, .int .i64 5, .int .u64 ad, .int .u64 wd, .bool ow, .int .i64 er] 27) = w1 at *
  replace hW1 := Lib.hid hW1
  have ht' : (t : Int) < 8 := by omega
  have c_how1 := hL1.c_how ht (hth)
  have c_tv1 := hL1.c_tv
  have c_tr1 := hL1.c_tr ht (hth)
  have e01 := (hE1.cell 0).trans (show _ = some (.int .i64 t) from rfl)
  have e11 := (hE1.cell 1).trans (show _ = some (.int .i64 5) from rfl)
  have f21 := (hL1.c_x (j := 2) hx (by decide)).2
  generalize hx0 : s.tries[tr] = x0 at *
  have x21 := (hL1.c_x (j := 2) hx (by decide)).1.trans (show _ = some (Value.int .i64 x0.last) from by rw [hx0]; rfl)
  have hup : Hid (take s i ⟨t, 5, ad, wd, ow, er⟩ = ⟨fun j => if j = t then tkT ⟨1, sn, ws, tr⟩ ⟨t, 5, ad, wd, ow, er⟩ s.tries.length else s.th j, if (5 : Int) = 6 ∧ 1 = 2 then wd else s.num, if (5 : Int) = 5 then t else if (5 : Int) = 6 ∧ 1 = 2 then -1 else s.hold, s.tries.set tr (updT x0 i ⟨t, 5, ad, wd, ow, er⟩)⟩) := Lib.hid ((take_in hth hx (by simp) (by simp) rfl).trans (by rw [hx0]))
  obtain ⟨mb, hmb, hmbB, hMp⟩ := h.maps t ht (by unfold liveT; rw [hth]; simp)
  have hap := Lib.hid (fun k (hk : k < 8) (hkt : k ≠ t) (hl : liveT (s.th k)) => h.apart k t hk ht hl (by unfold liveT; rw [hth]; simp) hkt)
  clear hMp
  have hL2 : ∀ j, LookW B ((w1.drewN j).setCell ⟨g, off + tr * 7 + 2, none⟩ (.int .i64 i)) b (s.setL (s.tries.set tr ⟨x0.th, x0.first, i, x0.sn, x0.how, x0.rd, x0.wr⟩)) n m (.slice (some ⟨g, off, none⟩) s.tries.length cap) := fun j => (hL1.drewN j).setX hx (by decide) _ _ (by rw [hx0]; rfl)
  have hE2 : ∀ j, Blk ((w1.drewN j).setCell ⟨g, off + tr * 7 + 2, none⟩ (.int .i64 i)) w.heap.size 27 #[.int .i64 t, .int .i64 5, .int .u64 ad, .int .u64 wd, .bool ow, .int .i64 er] := fun j => (hE1.drewN j).far (p := ⟨g, off + tr * 7 + 2, none⟩) hge.symm _
  have hx2 : tr < (s.tries.set tr ⟨x0.th, x0.first, i, x0.sn, x0.how, x0.rd, x0.wr⟩).length := by simpa using hx
  have hgb := h.geb
  have hth2 : (s.setL (s.tries.set tr ⟨x0.th, x0.first, i, x0.sn, x0.how, x0.rd, x0.wr⟩)).th t = ⟨1, sn, ws, tr⟩ := hth
  have e12 := fun j => ((hE2 j).cell 1).trans (show _ = some (.int .i64 5) from rfl)
  have e02 := fun j => ((hE2 j).cell 0).trans (show _ = some (.int .i64 t) from rfl)
  have fz852 := fun j => (hL2 j).fz (85)
  have c_hold2 := fun j => (hL2 j).c_hold
  have hL3 : ∀ j, LookW B (((w1.drewN j).setCell ⟨g, off + tr * 7 + 2, none⟩ (.int .i64 i)).setCell ⟨b, 85, none⟩ (.int .i64 t)) b ((s.setL (s.tries.set tr ⟨x0.th, x0.first, i, x0.sn, x0.how, x0.rd, x0.wr⟩)).setH t) n m (.slice (some ⟨g, off, none⟩) s.tries.length cap) := fun j => (hL2 j).setHold t
  have hE3 : ∀ j, Blk (((w1.drewN j).setCell ⟨g, off + tr * 7 + 2, none⟩ (.int .i64 i)).setCell ⟨b, 85, none⟩ (.int .i64 t)) w.heap.size 27 #[.int .i64 t, .int .i64 5, .int .u64 ad, .int .u64 wd, .bool ow, .int .i64 er] := fun j => (hE2 j).far (p := ⟨b, 85, none⟩) hbe.symm _
  have hth3 : ((s.setL (s.tries.set tr ⟨x0.th, x0.first, i, x0.sn, x0.how, x0.rd, x0.wr⟩)).setH t).th t = ⟨1, sn, ws, tr⟩ := hth
  have c_how3 := fun j => (hL3 j).c_how ht (hth3)
  have c_tb3 := fun j => (hL3 j).c_tb (i := 18) (hw := 1) (k := 5) (a := 3) (by decide) (by decide) rfl (by decide)
  have e13 := fun j => ((hE3 j).cell 1).trans (show _ = some (.int .i64 5) from rfl)
  have fz52t43 := fun j => (hL3 j).fz (52 + t * 4)
  have hst : Hid (take s i ⟨t, 5, ad, wd, ow, er⟩ = ((s.setL (s.tries.set tr ⟨x0.th, x0.first, i, x0.sn, x0.how, x0.rd, x0.wr⟩)).setH t).setT t ⟨2, sn, ws, tr⟩) := Lib.hid (by rw [hup.out]; simp only [St.setT, St.setL, St.setN, St.setH, tkT, updT, tb, List.set_set]; simp)
  have HTH : ((s.setL (s.tries.set tr ⟨x0.th, x0.first, i, x0.sn, x0.how, x0.rd, x0.wr⟩)).setH t).th t = ⟨1, sn, ws, tr⟩ := hth3
  replace HTH := Lib.hid HTH
  replace hL1 := Lib.hid hL1
  replace hL2 := Lib.hid hL2
  replace hL3 := Lib.hid hL3
  replace hth := Lib.hid hth
  replace hx0 := Lib.hid hx0
  replace hmb := Lib.hid hmb
  unfold evV
  dsimp only at *
  clear h hs hn hE1 hE2 hth2 hup hx2 hE3 hth3 hcn
  go_enter Try.func57, Try.ntmps57
  go_wp2
  rw [hW1.out]
  refine wp_region_mixH (fun _ => True) [3, 3, 1, 3, 3, 3, 3] (List.range 7) (by kernel_rfl) (by kernel_rfl) (fun _ _ h => h) trivial ?_; (repeat (first | ((first | refine wpMixH_pure rfl rfl (fun K hK => ?_) | refine wpMixH_loc rfl rfl (fun K hK => ?_) | refine wpMixH_any rfl rfl (fun K hK => ?_)); go_simp; refine hK _ _ ?_; clear hK K) | (refine wpMixH_skip rfl (by go_simp) (fun K hK => ?_); go_simp; refine hK _ _ ?_; clear hK K) | fail)); refine wpMixH_nil (fun n1 => ?_)
  go_wp2
  refine wp_region_mixH (fun _ => True) [3, 3, 3, 1, 3, 3, 3, 1, 3, 3] (List.range 10) (by kernel_rfl) (by kernel_rfl) (fun _ _ h => h) trivial ?_; (repeat (first | ((first | refine wpMixH_pure rfl rfl (fun K hK => ?_) | refine wpMixH_loc rfl rfl (fun K hK => ?_) | refine wpMixH_any rfl rfl (fun K hK => ?_)); go_simp; refine hK _ _ ?_; clear hK K) | (refine wpMixH_skip rfl (by go_simp) (fun K hK => ?_); go_simp; refine hK _ _ ?_; clear hK K) | fail)); refine wpMixH_nil (fun n2 => ?_)
  go_wp2
  refine wp_region_mixH (fun _ => True) [3, 3, 3, 3, 3, 1, 3, 1, 3, 3, 3, 3, 1, 3, 3, 3, 2] (List.range 17) (by kernel_rfl) (by kernel_rfl) (fun _ _ h => h) trivial ?_
  repeat ((first | refine wpMixH_pure rfl rfl (fun K hK => ?_) | refine wpMixH_loc rfl rfl (fun K hK => ?_) | refine wpMixH_any rfl rfl (fun K hK => ?_)); go_simp; refine hK _ _ ?_; clear hK K)
  refine wpMixH_loud rfl rfl (fun n9 K hK => ?_)
  go_wp2
  refine hK _ _ (fun _ => trivial) ?_; clear hK K
  refine wpMixH_nil (fun n10 => ?_)
  go_wp2
  have hlive : Hid (∀ wf mf nf tvf, LookW B wf b ((s.setL (s.tries.set tr ⟨x0.th, x0.first, i, x0.sn, x0.how, x0.rd, x0.wr⟩)).setH t) nf mf tvf → mf = m → (∃ mb, mf t = some mb ∧ B ≤ mb ∧ Mp wf mb .u64 nf (wfun ws)) ∧ ∀ k, k < 8 → k ≠ t → liveT (((s.setL (s.tries.set tr ⟨x0.th, x0.first, i, x0.sn, x0.how, x0.rd, x0.wr⟩)).setH t).th k) → mf k ≠ mf t) := Lib.hid (fun wf mf nf tvf hf hm => by
    subst hm
    refine ⟨?_, fun k hk hkt hl => hap.out k hk hkt hl⟩
    obtain ⟨mb2, q1, q2, q3⟩ := hf.maps t ht (by unfold liveT; rw [show ((s.setL (s.tries.set tr ⟨x0.th, x0.first, i, x0.sn, x0.how, x0.rd, x0.wr⟩)).setH t).th t = _ from HTH.out]; simp)
    rw [show ((s.setL (s.tries.set tr ⟨x0.th, x0.first, i, x0.sn, x0.how, x0.rd, x0.wr⟩)).setH t).th t = _ from HTH.out] at q3
    exact ⟨mb2, q1, q2, q3⟩)
  refine bodyPost_end (results_none rfl _ _ _) rfl ⟨rfl, ?_, ?_⟩
  · exact below_drewNs ((below_drewNs (((below_drewNs hb1.out _).setCell hgB _).setCell hgb _) _).setCell hgb _) _
  · refine ⟨m, (.slice (some ⟨g, off, none⟩) s.tries.length cap), ?_⟩
    rw [hst.out]
    have FIN : ∀ j jj kk, LookW B ((((((w1.drewN j).setCell ⟨g, off + tr * 7 + 2, none⟩ (.int .i64 i)).setCell ⟨b, 85, none⟩ (.int .i64 t)).drewN jj).setCell ⟨b, 52 + t * 4, none⟩ (.int .i64 (2 : Nat))).drewN kk) b (((s.setL (s.tries.set tr ⟨x0.th, x0.first, i, x0.sn, x0.how, x0.rd, x0.wr⟩)).setH t).setT t ⟨2, sn, ws, tr⟩) (n + 1) m (.slice (some ⟨g, off, none⟩) s.tries.length cap) := fun j jj kk => by
      have hfin := (((hL3.out j).drewN jj).setHow ht 2 (fun _ => by have := hlive.out _ _ _ _ ((hL3.out j).drewN jj) rfl; rw [show ((s.setL (s.tries.set tr ⟨x0.th, x0.first, i, x0.sn, x0.how, x0.rd, x0.wr⟩)).setH t).th t = _ from HTH.out]; exact this))
      rw [show ((s.setL (s.tries.set tr ⟨x0.th, x0.first, i, x0.sn, x0.how, x0.rd, x0.wr⟩)).setH t).th t = _ from HTH.out] at hfin
      exact (hfin.drewN kk).mono (Nat.le_succ _)
    exact FIN _ _ _
set_option maxRecDepth 100000 in
theorem take_own (h : LookW B w b s n m tv) (hBw : B ≤ w.heap.size) (hs : StBd s n) (hn : n ≤ 1152921504606846976) {t i : Nat} {ad wd er : Int} (ht : t < 8) {sn : Int} {ws : List (Int × Int)} {tr : Nat} (hth : s.th t = ⟨1, sn, ws, tr⟩) :
    Calls Try.prog 57 #[.pointer (some ⟨b, 0, none⟩), .int .i64 i, evV ⟨t, 2, ad, wd, true, er⟩] w fun x w' => x = .returned (.tuple #[]) ∧ Below B w w' ∧ ∃ m' tv', LookW B w' b (take s i ⟨t, 2, ad, wd, true, er⟩) (n + 1) m' tv' := by
  have hb1 : Hid (Below B w (w.alloc (.cells #[.int .i64 t, .int .i64 2, .int .u64 ad, .int .u64 wd, .bool true, .int .i64 er] 27))) := Lib.hid ((Below.refl _ w).alloc hBw _)
  have hL1 := h.alloc (.cells #[.int .i64 t, .int .i64 2, .int .u64 ad, .int .u64 wd, .bool true, .int .i64 er] 27)
  have hE1 := Blk.new w 27 #[.int .i64 t, .int .i64 2, .int .u64 ad, .int .u64 wd, .bool true, .int .i64 er]
  have hbe : b ≠ w.heap.size := Nat.ne_of_lt h.blk.lt
  have hx := hs.tr t (by unfold liveT; rw [hth]; simp)
  rw [hth] at hx
  dsimp only at hx
  have hcn := hs.cnt _ (List.getElem_mem hx)
  have hget := h.get
  obtain ⟨A, cap, rfl, hcap⟩ := h.tries.shape
  obtain ⟨g, off, rfl, hg, -⟩ := h.tries.cell encT_len (by decide) hx
  have hgB : B ≤ g := hget g (by simp [own, Value.ownBlock])
  have hge : g ≠ w.heap.size := Nat.ne_of_lt hg
  have hx' : (tr : Int) < (s.tries.length : Int) := by omega
  clear hcap hget hg
  generalize hW1 : w.alloc (.cells #[.int .i64 t, .int .i64 2, .int .u64 ad, .int .u64 wd, .bool true, .int .i64 er] 27) = w1 at *
  replace hW1 := Lib.hid hW1
  have ht' : (t : Int) < 8 := by omega
  have c_how1 := hL1.c_how ht (hth)
  have c_tv1 := hL1.c_tv
  have c_tr1 := hL1.c_tr ht (hth)
  have e01 := (hE1.cell 0).trans (show _ = some (.int .i64 t) from rfl)
  have e11 := (hE1.cell 1).trans (show _ = some (.int .i64 2) from rfl)
  have f21 := (hL1.c_x (j := 2) hx (by decide)).2
  generalize hx0 : s.tries[tr] = x0 at *
  have x21 := (hL1.c_x (j := 2) hx (by decide)).1.trans (show _ = some (Value.int .i64 x0.last) from by rw [hx0]; rfl)
  have hup : Hid (take s i ⟨t, 2, ad, wd, true, er⟩ = ⟨fun j => if j = t then tkT ⟨1, sn, ws, tr⟩ ⟨t, 2, ad, wd, true, er⟩ s.tries.length else s.th j, if (2 : Int) = 6 ∧ 1 = 2 then wd else s.num, if (2 : Int) = 5 then t else if (2 : Int) = 6 ∧ 1 = 2 then -1 else s.hold, s.tries.set tr (updT x0 i ⟨t, 2, ad, wd, true, er⟩)⟩) := Lib.hid ((take_in hth hx (by simp) (by simp) rfl).trans (by rw [hx0]))
  obtain ⟨mb, hmb, hmbB, hMp⟩ := h.maps t ht (by unfold liveT; rw [hth]; simp)
  have hap := Lib.hid (fun k (hk : k < 8) (hkt : k ≠ t) (hl : liveT (s.th k)) => h.apart k t hk ht hl (by unfold liveT; rw [hth]; simp) hkt)
  clear hMp
  have hL2 : ∀ j, LookW B ((w1.drewN j).setCell ⟨g, off + tr * 7 + 2, none⟩ (.int .i64 i)) b (s.setL (s.tries.set tr ⟨x0.th, x0.first, i, x0.sn, x0.how, x0.rd, x0.wr⟩)) n m (.slice (some ⟨g, off, none⟩) s.tries.length cap) := fun j => (hL1.drewN j).setX hx (by decide) _ _ (by rw [hx0]; rfl)
  have hE2 : ∀ j, Blk ((w1.drewN j).setCell ⟨g, off + tr * 7 + 2, none⟩ (.int .i64 i)) w.heap.size 27 #[.int .i64 t, .int .i64 2, .int .u64 ad, .int .u64 wd, .bool true, .int .i64 er] := fun j => (hE1.drewN j).far (p := ⟨g, off + tr * 7 + 2, none⟩) hge.symm _
  have hx2 : tr < (s.tries.set tr ⟨x0.th, x0.first, i, x0.sn, x0.how, x0.rd, x0.wr⟩).length := by simpa using hx
  have hgb := h.geb
  have hth2 : (s.setL (s.tries.set tr ⟨x0.th, x0.first, i, x0.sn, x0.how, x0.rd, x0.wr⟩)).th t = ⟨1, sn, ws, tr⟩ := hth
  have e12 := fun j => ((hE2 j).cell 1).trans (show _ = some (.int .i64 2) from rfl)
  have e42 := fun j => ((hE2 j).cell 4).trans (show _ = some (.bool true) from rfl)
  have c_how2 := fun j => (hL2 j).c_how ht (hth2)
  have c_tb2 := fun j => (hL2 j).c_tb (i := 15) (hw := 1) (k := 2) (a := 2) (by decide) (by decide) rfl (by decide)
  have fz52t42 := fun j => (hL2 j).fz (52 + t * 4)
  have hst : Hid (take s i ⟨t, 2, ad, wd, true, er⟩ = (s.setL (s.tries.set tr ⟨x0.th, x0.first, i, x0.sn, x0.how, x0.rd, x0.wr⟩)).setT t ⟨1, sn, ws, tr⟩) := Lib.hid (by rw [hup.out]; simp only [St.setT, St.setL, St.setN, St.setH, tkT, updT, tb, List.set_set]; simp)
  have HTH : (s.setL (s.tries.set tr ⟨x0.th, x0.first, i, x0.sn, x0.how, x0.rd, x0.wr⟩)).th t = ⟨1, sn, ws, tr⟩ := hth2
  replace HTH := Lib.hid HTH
  replace hL1 := Lib.hid hL1
  replace hL2 := Lib.hid hL2
  replace hth := Lib.hid hth
  replace hx0 := Lib.hid hx0
  replace hmb := Lib.hid hmb
  unfold evV
  dsimp only at *
  clear h hs hn hE1 hE2 hth2 hup hx2 hcn
  go_enter Try.func57, Try.ntmps57
  go_wp2
  rw [hW1.out]
  refine wp_region_mixH (fun _ => True) [3, 3, 1, 3, 3, 3, 3] (List.range 7) (by kernel_rfl) (by kernel_rfl) (fun _ _ h => h) trivial ?_; (repeat (first | ((first | refine wpMixH_pure rfl rfl (fun K hK => ?_) | refine wpMixH_loc rfl rfl (fun K hK => ?_) | refine wpMixH_any rfl rfl (fun K hK => ?_)); go_simp; refine hK _ _ ?_; clear hK K) | (refine wpMixH_skip rfl (by go_simp) (fun K hK => ?_); go_simp; refine hK _ _ ?_; clear hK K) | fail)); refine wpMixH_nil (fun n1 => ?_)
  go_wp2
  refine wp_region_mixH (fun _ => True) [3, 3, 3, 1, 3, 3, 3, 1, 3, 3] (List.range 10) (by kernel_rfl) (by kernel_rfl) (fun _ _ h => h) trivial ?_; (repeat (first | ((first | refine wpMixH_pure rfl rfl (fun K hK => ?_) | refine wpMixH_loc rfl rfl (fun K hK => ?_) | refine wpMixH_any rfl rfl (fun K hK => ?_)); go_simp; refine hK _ _ ?_; clear hK K) | (refine wpMixH_skip rfl (by go_simp) (fun K hK => ?_); go_simp; refine hK _ _ ?_; clear hK K) | fail)); refine wpMixH_nil (fun n2 => ?_)
  go_wp2
  refine wp_region_mixH (fun _ => True) [3, 3, 3, 3, 3, 1, 3, 1, 3, 3, 3, 3, 1, 3, 3, 3, 2] (List.range 17) (by kernel_rfl) (by kernel_rfl) (fun _ _ h => h) trivial ?_
  repeat ((first | refine wpMixH_pure rfl rfl (fun K hK => ?_) | refine wpMixH_loc rfl rfl (fun K hK => ?_) | refine wpMixH_any rfl rfl (fun K hK => ?_)); go_simp; refine hK _ _ ?_; clear hK K)
  refine wpMixH_loud rfl rfl (fun n9 K hK => ?_)
  go_wp2
  refine hK _ _ (fun _ => trivial) ?_; clear hK K
  refine wpMixH_nil (fun n10 => ?_)
  go_wp2
  have hlive : Hid (∀ wf mf nf tvf, LookW B wf b (s.setL (s.tries.set tr ⟨x0.th, x0.first, i, x0.sn, x0.how, x0.rd, x0.wr⟩)) nf mf tvf → mf = m → (∃ mb, mf t = some mb ∧ B ≤ mb ∧ Mp wf mb .u64 nf (wfun ws)) ∧ ∀ k, k < 8 → k ≠ t → liveT ((s.setL (s.tries.set tr ⟨x0.th, x0.first, i, x0.sn, x0.how, x0.rd, x0.wr⟩)).th k) → mf k ≠ mf t) := Lib.hid (fun wf mf nf tvf hf hm => by
    subst hm
    refine ⟨?_, fun k hk hkt hl => hap.out k hk hkt hl⟩
    obtain ⟨mb2, q1, q2, q3⟩ := hf.maps t ht (by unfold liveT; rw [show (s.setL (s.tries.set tr ⟨x0.th, x0.first, i, x0.sn, x0.how, x0.rd, x0.wr⟩)).th t = _ from HTH.out]; simp)
    rw [show (s.setL (s.tries.set tr ⟨x0.th, x0.first, i, x0.sn, x0.how, x0.rd, x0.wr⟩)).th t = _ from HTH.out] at q3
    exact ⟨mb2, q1, q2, q3⟩)
  refine bodyPost_end (results_none rfl _ _ _) rfl ⟨rfl, ?_, ?_⟩
  · exact below_drewNs ((below_drewNs ((below_drewNs hb1.out _).setCell hgB _) _).setCell hgb _) _
  · refine ⟨m, (.slice (some ⟨g, off, none⟩) s.tries.length cap), ?_⟩
    rw [hst.out]
    have FIN : ∀ j jj kk, LookW B (((((w1.drewN j).setCell ⟨g, off + tr * 7 + 2, none⟩ (.int .i64 i)).drewN jj).setCell ⟨b, 52 + t * 4, none⟩ (.int .i64 (1 : Nat))).drewN kk) b ((s.setL (s.tries.set tr ⟨x0.th, x0.first, i, x0.sn, x0.how, x0.rd, x0.wr⟩)).setT t ⟨1, sn, ws, tr⟩) (n + 1) m (.slice (some ⟨g, off, none⟩) s.tries.length cap) := fun j jj kk => by
      have hfin := (((hL2.out j).drewN jj).setHow ht 1 (fun _ => by have := hlive.out _ _ _ _ ((hL2.out j).drewN jj) rfl; rw [show (s.setL (s.tries.set tr ⟨x0.th, x0.first, i, x0.sn, x0.how, x0.rd, x0.wr⟩)).th t = _ from HTH.out]; exact this))
      rw [show (s.setL (s.tries.set tr ⟨x0.th, x0.first, i, x0.sn, x0.how, x0.rd, x0.wr⟩)).th t = _ from HTH.out] at hfin
      exact (hfin.drewN kk).mono (Nat.le_succ _)
    exact FIN _ _ _
set_option maxRecDepth 100000 in
theorem take_read (h : LookW B w b s n m tv) (hBw : B ≤ w.heap.size) (hs : StBd s n) (hn : n ≤ 1152921504606846976) {t i : Nat} {ad wd er : Int} (ht : t < 8) {sn : Int} {ws : List (Int × Int)} {tr : Nat} (hth : s.th t = ⟨1, sn, ws, tr⟩) :
    Calls Try.prog 57 #[.pointer (some ⟨b, 0, none⟩), .int .i64 i, evV ⟨t, 2, ad, wd, false, er⟩] w fun x w' => x = .returned (.tuple #[]) ∧ Below B w w' ∧ ∃ m' tv', LookW B w' b (take s i ⟨t, 2, ad, wd, false, er⟩) (n + 1) m' tv' := by
  have hb1 : Hid (Below B w (w.alloc (.cells #[.int .i64 t, .int .i64 2, .int .u64 ad, .int .u64 wd, .bool false, .int .i64 er] 27))) := Lib.hid ((Below.refl _ w).alloc hBw _)
  have hL1 := h.alloc (.cells #[.int .i64 t, .int .i64 2, .int .u64 ad, .int .u64 wd, .bool false, .int .i64 er] 27)
  have hE1 := Blk.new w 27 #[.int .i64 t, .int .i64 2, .int .u64 ad, .int .u64 wd, .bool false, .int .i64 er]
  have hbe : b ≠ w.heap.size := Nat.ne_of_lt h.blk.lt
  have hx := hs.tr t (by unfold liveT; rw [hth]; simp)
  rw [hth] at hx
  dsimp only at hx
  have hcn := hs.cnt _ (List.getElem_mem hx)
  have hget := h.get
  obtain ⟨A, cap, rfl, hcap⟩ := h.tries.shape
  obtain ⟨g, off, rfl, hg, -⟩ := h.tries.cell encT_len (by decide) hx
  have hgB : B ≤ g := hget g (by simp [own, Value.ownBlock])
  have hge : g ≠ w.heap.size := Nat.ne_of_lt hg
  have hx' : (tr : Int) < (s.tries.length : Int) := by omega
  clear hcap hget hg
  generalize hW1 : w.alloc (.cells #[.int .i64 t, .int .i64 2, .int .u64 ad, .int .u64 wd, .bool false, .int .i64 er] 27) = w1 at *
  replace hW1 := Lib.hid hW1
  have ht' : (t : Int) < 8 := by omega
  have c_how1 := hL1.c_how ht (hth)
  have c_tv1 := hL1.c_tv
  have c_tr1 := hL1.c_tr ht (hth)
  have e01 := (hE1.cell 0).trans (show _ = some (.int .i64 t) from rfl)
  have e11 := (hE1.cell 1).trans (show _ = some (.int .i64 2) from rfl)
  have f21 := (hL1.c_x (j := 2) hx (by decide)).2
  generalize hx0 : s.tries[tr] = x0 at *
  have x21 := (hL1.c_x (j := 2) hx (by decide)).1.trans (show _ = some (Value.int .i64 x0.last) from by rw [hx0]; rfl)
  have hup : Hid (take s i ⟨t, 2, ad, wd, false, er⟩ = ⟨fun j => if j = t then tkT ⟨1, sn, ws, tr⟩ ⟨t, 2, ad, wd, false, er⟩ s.tries.length else s.th j, if (2 : Int) = 6 ∧ 1 = 2 then wd else s.num, if (2 : Int) = 5 then t else if (2 : Int) = 6 ∧ 1 = 2 then -1 else s.hold, s.tries.set tr (updT x0 i ⟨t, 2, ad, wd, false, er⟩)⟩) := Lib.hid ((take_in hth hx (by simp) (by simp) rfl).trans (by rw [hx0]))
  obtain ⟨mb, hmb, hmbB, hMp⟩ := h.maps t ht (by unfold liveT; rw [hth]; simp)
  have hap := Lib.hid (fun k (hk : k < 8) (hkt : k ≠ t) (hl : liveT (s.th k)) => h.apart k t hk ht hl (by unfold liveT; rw [hth]; simp) hkt)
  clear hMp
  have hL2 : ∀ j, LookW B ((w1.drewN j).setCell ⟨g, off + tr * 7 + 2, none⟩ (.int .i64 i)) b (s.setL (s.tries.set tr ⟨x0.th, x0.first, i, x0.sn, x0.how, x0.rd, x0.wr⟩)) n m (.slice (some ⟨g, off, none⟩) s.tries.length cap) := fun j => (hL1.drewN j).setX hx (by decide) _ _ (by rw [hx0]; rfl)
  have hE2 : ∀ j, Blk ((w1.drewN j).setCell ⟨g, off + tr * 7 + 2, none⟩ (.int .i64 i)) w.heap.size 27 #[.int .i64 t, .int .i64 2, .int .u64 ad, .int .u64 wd, .bool false, .int .i64 er] := fun j => (hE1.drewN j).far (p := ⟨g, off + tr * 7 + 2, none⟩) hge.symm _
  have hx2 : tr < (s.tries.set tr ⟨x0.th, x0.first, i, x0.sn, x0.how, x0.rd, x0.wr⟩).length := by simpa using hx
  have hgb := h.geb
  have hth2 : (s.setL (s.tries.set tr ⟨x0.th, x0.first, i, x0.sn, x0.how, x0.rd, x0.wr⟩)).th t = ⟨1, sn, ws, tr⟩ := hth
  have e12 := fun j => ((hE2 j).cell 1).trans (show _ = some (.int .i64 2) from rfl)
  have e42 := fun j => ((hE2 j).cell 4).trans (show _ = some (.bool false) from rfl)
  have x52 := fun j => ((hL2 j).c_x (j := 5) hx2 (by decide)).1.trans (show _ = some (.int .i64 x0.rd) from by simp only [St.setL, List.getElem_set_self, encT]; rfl)
  have f52 := fun j => ((hL2 j).c_x (j := 5) hx2 (by decide)).2
  have hL3 : ∀ j, LookW B (((w1.drewN j).setCell ⟨g, off + tr * 7 + 2, none⟩ (.int .i64 i)).setCell ⟨g, off + tr * 7 + 5, none⟩ (.int .i64 (x0.rd + 1))) b ((s.setL (s.tries.set tr ⟨x0.th, x0.first, i, x0.sn, x0.how, x0.rd, x0.wr⟩)).setL ((s.tries.set tr ⟨x0.th, x0.first, i, x0.sn, x0.how, x0.rd, x0.wr⟩).set tr ⟨x0.th, x0.first, i, x0.sn, x0.how, x0.rd + 1, x0.wr⟩)) n m (.slice (some ⟨g, off, none⟩) s.tries.length cap) := fun j => (hL2 j).setX hx2 (by decide) _ _ (by simp only [St.setL, List.getElem_set_self, encT]; rfl)
  have hE3 : ∀ j, Blk (((w1.drewN j).setCell ⟨g, off + tr * 7 + 2, none⟩ (.int .i64 i)).setCell ⟨g, off + tr * 7 + 5, none⟩ (.int .i64 (x0.rd + 1))) w.heap.size 27 #[.int .i64 t, .int .i64 2, .int .u64 ad, .int .u64 wd, .bool false, .int .i64 er] := fun j => (hE2 j).far (p := ⟨g, off + tr * 7 + 5, none⟩) hge.symm _
  have hth3 : ((s.setL (s.tries.set tr ⟨x0.th, x0.first, i, x0.sn, x0.how, x0.rd, x0.wr⟩)).setL ((s.tries.set tr ⟨x0.th, x0.first, i, x0.sn, x0.how, x0.rd, x0.wr⟩).set tr ⟨x0.th, x0.first, i, x0.sn, x0.how, x0.rd + 1, x0.wr⟩)).th t = ⟨1, sn, ws, tr⟩ := hth
  have c_how3 := fun j => (hL3 j).c_how ht (hth3)
  have c_tb3 := fun j => (hL3 j).c_tb (i := 15) (hw := 1) (k := 2) (a := 2) (by decide) (by decide) rfl (by decide)
  have e13 := fun j => ((hE3 j).cell 1).trans (show _ = some (.int .i64 2) from rfl)
  have fz52t43 := fun j => (hL3 j).fz (52 + t * 4)
  have hrd : (x0.rd : Int) ≤ 1152921504606846976 := by omega
  have hst : Hid (take s i ⟨t, 2, ad, wd, false, er⟩ = ((s.setL (s.tries.set tr ⟨x0.th, x0.first, i, x0.sn, x0.how, x0.rd, x0.wr⟩)).setL ((s.tries.set tr ⟨x0.th, x0.first, i, x0.sn, x0.how, x0.rd, x0.wr⟩).set tr ⟨x0.th, x0.first, i, x0.sn, x0.how, x0.rd + 1, x0.wr⟩)).setT t ⟨1, sn, ws, tr⟩) := Lib.hid (by rw [hup.out]; simp only [St.setT, St.setL, St.setN, St.setH, tkT, updT, tb, List.set_set]; simp)
  have HTH : ((s.setL (s.tries.set tr ⟨x0.th, x0.first, i, x0.sn, x0.how, x0.rd, x0.wr⟩)).setL ((s.tries.set tr ⟨x0.th, x0.first, i, x0.sn, x0.how, x0.rd, x0.wr⟩).set tr ⟨x0.th, x0.first, i, x0.sn, x0.how, x0.rd + 1, x0.wr⟩)).th t = ⟨1, sn, ws, tr⟩ := hth3
  replace HTH := Lib.hid HTH
  replace hL1 := Lib.hid hL1
  replace hL2 := Lib.hid hL2
  replace hL3 := Lib.hid hL3
  replace hth := Lib.hid hth
  replace hx0 := Lib.hid hx0
  replace hmb := Lib.hid hmb
  unfold evV
  dsimp only at *
  clear h hs hn hE1 hE2 hth2 hup hx2 hE3 hth3 hcn
  go_enter Try.func57, Try.ntmps57
  go_wp2
  rw [hW1.out]
  refine wp_region_mixH (fun _ => True) [3, 3, 1, 3, 3, 3, 3] (List.range 7) (by kernel_rfl) (by kernel_rfl) (fun _ _ h => h) trivial ?_; (repeat (first | ((first | refine wpMixH_pure rfl rfl (fun K hK => ?_) | refine wpMixH_loc rfl rfl (fun K hK => ?_) | refine wpMixH_any rfl rfl (fun K hK => ?_)); go_simp; refine hK _ _ ?_; clear hK K) | (refine wpMixH_skip rfl (by go_simp) (fun K hK => ?_); go_simp; refine hK _ _ ?_; clear hK K) | fail)); refine wpMixH_nil (fun n1 => ?_)
  go_wp2
  refine wp_region_mixH (fun _ => True) [3, 3, 3, 1, 3, 3, 3, 1, 3, 3] (List.range 10) (by kernel_rfl) (by kernel_rfl) (fun _ _ h => h) trivial ?_; (repeat (first | ((first | refine wpMixH_pure rfl rfl (fun K hK => ?_) | refine wpMixH_loc rfl rfl (fun K hK => ?_) | refine wpMixH_any rfl rfl (fun K hK => ?_)); go_simp; refine hK _ _ ?_; clear hK K) | (refine wpMixH_skip rfl (by go_simp) (fun K hK => ?_); go_simp; refine hK _ _ ?_; clear hK K) | fail)); refine wpMixH_nil (fun n2 => ?_)
  go_wp2
  clear hrd
  refine wp_region_mixH (fun _ => True) [3, 3, 3, 3, 3, 1, 3, 1, 3, 3, 3, 3, 1, 3, 3, 3, 2] (List.range 17) (by kernel_rfl) (by kernel_rfl) (fun _ _ h => h) trivial ?_
  repeat ((first | refine wpMixH_pure rfl rfl (fun K hK => ?_) | refine wpMixH_loc rfl rfl (fun K hK => ?_) | refine wpMixH_any rfl rfl (fun K hK => ?_)); go_simp; refine hK _ _ ?_; clear hK K)
  refine wpMixH_loud rfl rfl (fun n9 K hK => ?_)
  go_wp2
  refine hK _ _ (fun _ => trivial) ?_; clear hK K
  refine wpMixH_nil (fun n10 => ?_)
  go_wp2
  have hlive : Hid (∀ wf mf nf tvf, LookW B wf b ((s.setL (s.tries.set tr ⟨x0.th, x0.first, i, x0.sn, x0.how, x0.rd, x0.wr⟩)).setL ((s.tries.set tr ⟨x0.th, x0.first, i, x0.sn, x0.how, x0.rd, x0.wr⟩).set tr ⟨x0.th, x0.first, i, x0.sn, x0.how, x0.rd + 1, x0.wr⟩)) nf mf tvf → mf = m → (∃ mb, mf t = some mb ∧ B ≤ mb ∧ Mp wf mb .u64 nf (wfun ws)) ∧ ∀ k, k < 8 → k ≠ t → liveT (((s.setL (s.tries.set tr ⟨x0.th, x0.first, i, x0.sn, x0.how, x0.rd, x0.wr⟩)).setL ((s.tries.set tr ⟨x0.th, x0.first, i, x0.sn, x0.how, x0.rd, x0.wr⟩).set tr ⟨x0.th, x0.first, i, x0.sn, x0.how, x0.rd + 1, x0.wr⟩)).th k) → mf k ≠ mf t) := Lib.hid (fun wf mf nf tvf hf hm => by
    subst hm
    refine ⟨?_, fun k hk hkt hl => hap.out k hk hkt hl⟩
    obtain ⟨mb2, q1, q2, q3⟩ := hf.maps t ht (by unfold liveT; rw [show ((s.setL (s.tries.set tr ⟨x0.th, x0.first, i, x0.sn, x0.how, x0.rd, x0.wr⟩)).setL ((s.tries.set tr ⟨x0.th, x0.first, i, x0.sn, x0.how, x0.rd, x0.wr⟩).set tr ⟨x0.th, x0.first, i, x0.sn, x0.how, x0.rd + 1, x0.wr⟩)).th t = _ from HTH.out]; simp)
    rw [show ((s.setL (s.tries.set tr ⟨x0.th, x0.first, i, x0.sn, x0.how, x0.rd, x0.wr⟩)).setL ((s.tries.set tr ⟨x0.th, x0.first, i, x0.sn, x0.how, x0.rd, x0.wr⟩).set tr ⟨x0.th, x0.first, i, x0.sn, x0.how, x0.rd + 1, x0.wr⟩)).th t = _ from HTH.out] at q3
    exact ⟨mb2, q1, q2, q3⟩)
  refine bodyPost_end (results_none rfl _ _ _) rfl ⟨rfl, ?_, ?_⟩
  · exact below_drewNs ((below_drewNs (((below_drewNs hb1.out _).setCell hgB _).setCell hgB _) _).setCell hgb _) _
  · refine ⟨m, (.slice (some ⟨g, off, none⟩) s.tries.length cap), ?_⟩
    rw [hst.out]
    have FIN : ∀ j jj kk, LookW B ((((((w1.drewN j).setCell ⟨g, off + tr * 7 + 2, none⟩ (.int .i64 i)).setCell ⟨g, off + tr * 7 + 5, none⟩ (.int .i64 (x0.rd + 1))).drewN jj).setCell ⟨b, 52 + t * 4, none⟩ (.int .i64 (1 : Nat))).drewN kk) b (((s.setL (s.tries.set tr ⟨x0.th, x0.first, i, x0.sn, x0.how, x0.rd, x0.wr⟩)).setL ((s.tries.set tr ⟨x0.th, x0.first, i, x0.sn, x0.how, x0.rd, x0.wr⟩).set tr ⟨x0.th, x0.first, i, x0.sn, x0.how, x0.rd + 1, x0.wr⟩)).setT t ⟨1, sn, ws, tr⟩) (n + 1) m (.slice (some ⟨g, off, none⟩) s.tries.length cap) := fun j jj kk => by
      have hfin := (((hL3.out j).drewN jj).setHow ht 1 (fun _ => by have := hlive.out _ _ _ _ ((hL3.out j).drewN jj) rfl; rw [show ((s.setL (s.tries.set tr ⟨x0.th, x0.first, i, x0.sn, x0.how, x0.rd, x0.wr⟩)).setL ((s.tries.set tr ⟨x0.th, x0.first, i, x0.sn, x0.how, x0.rd, x0.wr⟩).set tr ⟨x0.th, x0.first, i, x0.sn, x0.how, x0.rd + 1, x0.wr⟩)).th t = _ from HTH.out]; exact this))
      rw [show ((s.setL (s.tries.set tr ⟨x0.th, x0.first, i, x0.sn, x0.how, x0.rd, x0.wr⟩)).setL ((s.tries.set tr ⟨x0.th, x0.first, i, x0.sn, x0.how, x0.rd, x0.wr⟩).set tr ⟨x0.th, x0.first, i, x0.sn, x0.how, x0.rd + 1, x0.wr⟩)).th t = _ from HTH.out] at hfin
      exact (hfin.drewN kk).mono (Nat.le_succ _)
    exact FIN _ _ _
end
end Go.Proofs.Yteoebfjhadmnbaa
/- (*events.look).take by contract: kind by kind (printed by ev/mktake.py). -/
namespace Go.Proofs.Yteoebfjhadmnbaa
open Go.RowKit
set_option maxHeartbeats 4000000
set_option linter.unusedVariables false
set_option linter.unusedSimpArgs false
section
variable {B b n : Nat} {w : World} {s : St} {m : Nat → Option Nat} {tv : Value}
set_option maxRecDepth 100000 in
theorem take_moved (h : LookW B w b s n m tv) (hBw : B ≤ w.heap.size) (hs : StBd s n) (hn : n ≤ 1152921504606846976) {t i : Nat} {ad wd er : Int} {ow : Bool} (ht : t < 8) {sn : Int} {ws : List (Int × Int)} {tr : Nat} (hth : s.th t = ⟨1, sn, ws, tr⟩) :
    Calls Try.prog 57 #[.pointer (some ⟨b, 0, none⟩), .int .i64 i, evV ⟨t, 4, ad, wd, ow, er⟩] w fun x w' => x = .returned (.tuple #[]) ∧ Below B w w' ∧ ∃ m' tv', LookW B w' b (take s i ⟨t, 4, ad, wd, ow, er⟩) (n + 1) m' tv' := by
  have hb1 : Hid (Below B w (w.alloc (.cells #[.int .i64 t, .int .i64 4, .int .u64 ad, .int .u64 wd, .bool ow, .int .i64 er] 27))) := Lib.hid ((Below.refl _ w).alloc hBw _)
  have hL1 := h.alloc (.cells #[.int .i64 t, .int .i64 4, .int .u64 ad, .int .u64 wd, .bool ow, .int .i64 er] 27)
  have hE1 := Blk.new w 27 #[.int .i64 t, .int .i64 4, .int .u64 ad, .int .u64 wd, .bool ow, .int .i64 er]
  have hbe : b ≠ w.heap.size := Nat.ne_of_lt h.blk.lt
  have hx := hs.tr t (by unfold liveT; rw [hth]; simp)
  rw [hth] at hx
  dsimp only at hx
  have hcn := hs.cnt _ (List.getElem_mem hx)
  have hget := h.get
  obtain ⟨A, cap, rfl, hcap⟩ := h.tries.shape
  obtain ⟨g, off, rfl, hg, -⟩ := h.tries.cell encT_len (by decide) hx
  have hgB : B ≤ g := hget g (by simp [own, Value.ownBlock])
  have hge : g ≠ w.heap.size := Nat.ne_of_lt hg
  have hx' : (tr : Int) < (s.tries.length : Int) := by omega
  clear hcap hget hg
  generalize hW1 : w.alloc (.cells #[.int .i64 t, .int .i64 4, .int .u64 ad, .int .u64 wd, .bool ow, .int .i64 er] 27) = w1 at *
  replace hW1 := Lib.hid hW1
  have ht' : (t : Int) < 8 := by omega
  have c_how1 := hL1.c_how ht (hth)
  have c_tv1 := hL1.c_tv
  have c_tr1 := hL1.c_tr ht (hth)
  have e01 := (hE1.cell 0).trans (show _ = some (.int .i64 t) from rfl)
  have e11 := (hE1.cell 1).trans (show _ = some (.int .i64 4) from rfl)
  have f21 := (hL1.c_x (j := 2) hx (by decide)).2
  generalize hx0 : s.tries[tr] = x0 at *
  have x21 := (hL1.c_x (j := 2) hx (by decide)).1.trans (show _ = some (Value.int .i64 x0.last) from by rw [hx0]; rfl)
  have hup : Hid (take s i ⟨t, 4, ad, wd, ow, er⟩ = ⟨fun j => if j = t then tkT ⟨1, sn, ws, tr⟩ ⟨t, 4, ad, wd, ow, er⟩ s.tries.length else s.th j, if (4 : Int) = 6 ∧ 1 = 2 then wd else s.num, if (4 : Int) = 5 then t else if (4 : Int) = 6 ∧ 1 = 2 then -1 else s.hold, s.tries.set tr (updT x0 i ⟨t, 4, ad, wd, ow, er⟩)⟩) := Lib.hid ((take_in hth hx (by simp) (by simp) rfl).trans (by rw [hx0]))
  obtain ⟨mb, hmb, hmbB, hMp⟩ := h.maps t ht (by unfold liveT; rw [hth]; simp)
  have hap := Lib.hid (fun k (hk : k < 8) (hkt : k ≠ t) (hl : liveT (s.th k)) => h.apart k t hk ht hl (by unfold liveT; rw [hth]; simp) hkt)
  clear hMp
  have hL2 : ∀ j, LookW B ((w1.drewN j).setCell ⟨g, off + tr * 7 + 2, none⟩ (.int .i64 i)) b (s.setL (s.tries.set tr ⟨x0.th, x0.first, i, x0.sn, x0.how, x0.rd, x0.wr⟩)) n m (.slice (some ⟨g, off, none⟩) s.tries.length cap) := fun j => (hL1.drewN j).setX hx (by decide) _ _ (by rw [hx0]; rfl)
  have hE2 : ∀ j, Blk ((w1.drewN j).setCell ⟨g, off + tr * 7 + 2, none⟩ (.int .i64 i)) w.heap.size 27 #[.int .i64 t, .int .i64 4, .int .u64 ad, .int .u64 wd, .bool ow, .int .i64 er] := fun j => (hE1.drewN j).far (p := ⟨g, off + tr * 7 + 2, none⟩) hge.symm _
  have hx2 : tr < (s.tries.set tr ⟨x0.th, x0.first, i, x0.sn, x0.how, x0.rd, x0.wr⟩).length := by simpa using hx
  have hgb := h.geb
  have hth2 : (s.setL (s.tries.set tr ⟨x0.th, x0.first, i, x0.sn, x0.how, x0.rd, x0.wr⟩)).th t = ⟨1, sn, ws, tr⟩ := hth
  have e12 := fun j => ((hE2 j).cell 1).trans (show _ = some (.int .i64 4) from rfl)
  have e32 := fun j => ((hE2 j).cell 3).trans (show _ = some (.int .u64 wd) from rfl)
  have c_sn2 := fun j => (hL2 j).c_sn ht (hth2)
  have fz52t412 := fun j => (hL2 j).fz (52 + t * 4 + 1)
  have hL3 : ∀ j j3, LookW B ((((w1.drewN j).setCell ⟨g, off + tr * 7 + 2, none⟩ (.int .i64 i)).drewN j3).setCell ⟨b, 52 + t * 4 + 1, none⟩ (.int .u64 wd)) b ((s.setL (s.tries.set tr ⟨x0.th, x0.first, i, x0.sn, x0.how, x0.rd, x0.wr⟩)).setT t ⟨1, wd, ws, tr⟩) n m (.slice (some ⟨g, off, none⟩) s.tries.length cap) := fun j j3 => by have := ((hL2 j).drewN j3).setSn ht wd; rw [hth2] at this; exact this
  have hE3 : ∀ j j3, Blk ((((w1.drewN j).setCell ⟨g, off + tr * 7 + 2, none⟩ (.int .i64 i)).drewN j3).setCell ⟨b, 52 + t * 4 + 1, none⟩ (.int .u64 wd)) w.heap.size 27 #[.int .i64 t, .int .i64 4, .int .u64 ad, .int .u64 wd, .bool ow, .int .i64 er] := fun j j3 => ((hE2 j).drewN j3).far (p := ⟨b, 52 + t * 4 + 1, none⟩) hbe.symm _
  have hth3 : ((s.setL (s.tries.set tr ⟨x0.th, x0.first, i, x0.sn, x0.how, x0.rd, x0.wr⟩)).setT t ⟨1, wd, ws, tr⟩).th t = ⟨1, wd, ws, tr⟩ := St.setT_at _ _ _
  have x33 := fun j j3 => ((hL3 j j3).c_x (j := 3) hx2 (by decide)).1.trans (show _ = some (.int .u64 x0.sn) from by simp only [St.setL, St.setT, List.getElem_set_self, encT]; rfl)
  have f33 := fun j j3 => ((hL3 j j3).c_x (j := 3) hx2 (by decide)).2
  have e33 := fun j j3 => ((hE3 j j3).cell 3).trans (show _ = some (.int .u64 wd) from rfl)
  have hL4 : ∀ j j3 j4, LookW B ((((((w1.drewN j).setCell ⟨g, off + tr * 7 + 2, none⟩ (.int .i64 i)).drewN j3).setCell ⟨b, 52 + t * 4 + 1, none⟩ (.int .u64 wd)).drewN j4).setCell ⟨g, off + tr * 7 + 3, none⟩ (.int .u64 wd)) b (((s.setL (s.tries.set tr ⟨x0.th, x0.first, i, x0.sn, x0.how, x0.rd, x0.wr⟩)).setT t ⟨1, wd, ws, tr⟩).setL ((s.tries.set tr ⟨x0.th, x0.first, i, x0.sn, x0.how, x0.rd, x0.wr⟩).set tr ⟨x0.th, x0.first, i, wd, x0.how, x0.rd, x0.wr⟩)) n m (.slice (some ⟨g, off, none⟩) s.tries.length cap) := fun j j3 j4 => ((hL3 j j3).drewN j4).setX hx2 (by decide) _ _ (by simp only [St.setL, St.setT, List.getElem_set_self, encT]; rfl)
  have hE4 : ∀ j j3 j4, Blk ((((((w1.drewN j).setCell ⟨g, off + tr * 7 + 2, none⟩ (.int .i64 i)).drewN j3).setCell ⟨b, 52 + t * 4 + 1, none⟩ (.int .u64 wd)).drewN j4).setCell ⟨g, off + tr * 7 + 3, none⟩ (.int .u64 wd)) w.heap.size 27 #[.int .i64 t, .int .i64 4, .int .u64 ad, .int .u64 wd, .bool ow, .int .i64 er] := fun j j3 j4 => ((hE3 j j3).drewN j4).far (p := ⟨g, off + tr * 7 + 3, none⟩) hge.symm _
  have hth4 : (((s.setL (s.tries.set tr ⟨x0.th, x0.first, i, x0.sn, x0.how, x0.rd, x0.wr⟩)).setT t ⟨1, wd, ws, tr⟩).setL ((s.tries.set tr ⟨x0.th, x0.first, i, x0.sn, x0.how, x0.rd, x0.wr⟩).set tr ⟨x0.th, x0.first, i, wd, x0.how, x0.rd, x0.wr⟩)).th t = ⟨1, wd, ws, tr⟩ := St.setT_at _ _ _
  have c_how4 := fun j j3 j4 => (hL4 j j3 j4).c_how ht (hth4)
  have c_tb4 := fun j j3 j4 => (hL4 j j3 j4).c_tb (i := 17) (hw := 1) (k := 4) (a := 2) (by decide) (by decide) rfl (by decide)
  have e14 := fun j j3 j4 => ((hE4 j j3 j4).cell 1).trans (show _ = some (.int .i64 4) from rfl)
  have e34 := fun j j3 j4 => ((hE4 j j3 j4).cell 3).trans (show _ = some (.int .u64 wd) from rfl)
  have fz52t44 := fun j j3 j4 => (hL4 j j3 j4).fz (52 + t * 4)
  have hsc : Hid (∀ j j3 j4, ((w1.drewN j).setCell ⟨g, off + tr * 7 + 2, none⟩ (.int .i64 i)).cell? ⟨w.heap.size, 3, none⟩ = some (.int .u64 wd) ∧ ((((w1.drewN j).setCell ⟨g, off + tr * 7 + 2, none⟩ (.int .i64 i)).drewN j3).setCell ⟨b, 52 + t * 4 + 1, none⟩ (.int .u64 wd)).cell? ⟨w.heap.size, 3, none⟩ = some (.int .u64 wd) ∧ ((((((w1.drewN j).setCell ⟨g, off + tr * 7 + 2, none⟩ (.int .i64 i)).drewN j3).setCell ⟨b, 52 + t * 4 + 1, none⟩ (.int .u64 wd)).drewN j4).setCell ⟨g, off + tr * 7 + 3, none⟩ (.int .u64 wd)).cell? ⟨w.heap.size, 3, none⟩ = some (.int .u64 wd)) := Lib.hid fun j j3 j4 => ⟨e32 j, e33 j j3, e34 j j3 j4⟩
  have hst : Hid (take s i ⟨t, 4, ad, wd, ow, er⟩ = (((s.setL (s.tries.set tr ⟨x0.th, x0.first, i, x0.sn, x0.how, x0.rd, x0.wr⟩)).setT t ⟨1, wd, ws, tr⟩).setL ((s.tries.set tr ⟨x0.th, x0.first, i, x0.sn, x0.how, x0.rd, x0.wr⟩).set tr ⟨x0.th, x0.first, i, wd, x0.how, x0.rd, x0.wr⟩)).setT t ⟨1, wd, ws, tr⟩) := Lib.hid (by rw [hup.out]; simp only [St.setT, St.setL, St.setN, St.setH, tkT, updT, tb, List.set_set]; simp; funext k; split <;> rfl)
  have HTH : (((s.setL (s.tries.set tr ⟨x0.th, x0.first, i, x0.sn, x0.how, x0.rd, x0.wr⟩)).setT t ⟨1, wd, ws, tr⟩).setL ((s.tries.set tr ⟨x0.th, x0.first, i, x0.sn, x0.how, x0.rd, x0.wr⟩).set tr ⟨x0.th, x0.first, i, wd, x0.how, x0.rd, x0.wr⟩)).th t = ⟨1, wd, ws, tr⟩ := hth4
  replace HTH := Lib.hid HTH
  replace hL1 := Lib.hid hL1
  replace hL2 := Lib.hid hL2
  replace hL3 := Lib.hid hL3
  replace hL4 := Lib.hid hL4
  replace hth := Lib.hid hth
  replace hx0 := Lib.hid hx0
  replace hmb := Lib.hid hmb
  unfold evV
  dsimp only at *
  clear h hs hn hE1 hE2 hth2 hup hx2 hE3 hth3 hE4 hth4 hcn
  go_enter Try.func57, Try.ntmps57
  go_wp2
  rw [hW1.out]
  refine wp_region_mixH (fun _ => True) [3, 3, 1, 3, 3, 3, 3] (List.range 7) (by kernel_rfl) (by kernel_rfl) (fun _ _ h => h) trivial ?_; (repeat (first | ((first | refine wpMixH_pure rfl rfl (fun K hK => ?_) | refine wpMixH_loc rfl rfl (fun K hK => ?_) | refine wpMixH_any rfl rfl (fun K hK => ?_)); go_simp; refine hK _ _ ?_; clear hK K) | (refine wpMixH_skip rfl (by go_simp) (fun K hK => ?_); go_simp; refine hK _ _ ?_; clear hK K) | fail)); refine wpMixH_nil (fun n1 => ?_)
  go_wp2
  refine wp_region_mixH (fun _ => True) [3, 3, 3, 1, 3, 3, 3, 1, 3, 3] (List.range 10) (by kernel_rfl) (by kernel_rfl) (fun _ _ h => h) trivial ?_; (repeat (first | ((first | refine wpMixH_pure rfl rfl (fun K hK => ?_) | refine wpMixH_loc rfl rfl (fun K hK => ?_) | refine wpMixH_any rfl rfl (fun K hK => ?_)); go_simp; refine hK _ _ ?_; clear hK K) | (refine wpMixH_skip rfl (by go_simp) (fun K hK => ?_); go_simp; refine hK _ _ ?_; clear hK K) | fail)); refine wpMixH_nil (fun n2 => ?_)
  go_wp2
  refine wp_region_mixH (fun W' => W'.cell? ⟨w.heap.size, 3, none⟩ = some (.int .u64 wd)) [3, 3, 3, 1, 3, 0, 3, 3, 2, 3, 3, 2] (List.range 12) (by kernel_rfl) (by kernel_rfl) (fun _ _ h => h) ((hsc.out _ 0 0).1) ?_
  repeat (first | ((first | refine wpMixH_pure rfl rfl (fun K hK => ?_) | refine wpMixH_loc rfl rfl (fun K hK => ?_) | refine wpMixH_any rfl rfl (fun K hK => ?_)); go_simp; refine hK _ _ ?_; clear hK K) | (refine wpMixH_any rfl rfl (fun K hK => ?_); rw [if_pos (by go_simp)]; apply Exists.intro; refine And.intro (fun w2 hS2 => ?_) (hK _ _ ?_); (focus (obtain hs1 := hS2; go_simp; rfl)); clear hK K))
  refine wpMixH_loud rfl rfl (fun n3 K hK => ?_)
  go_wp2
  refine hK _ _ (fun _ => ((hsc.out _ _ 0).2.1)) ?_; clear hK K
  repeat (first | ((first | refine wpMixH_pure rfl rfl (fun K hK => ?_) | refine wpMixH_loc rfl rfl (fun K hK => ?_) | refine wpMixH_any rfl rfl (fun K hK => ?_)); go_simp; refine hK _ _ ?_; clear hK K) | (refine wpMixH_any rfl rfl (fun K hK => ?_); rw [if_pos (by go_simp)]; apply Exists.intro; refine And.intro (fun w2 hS2 => ?_) (hK _ _ ?_); (focus (obtain hs1 := hS2; go_simp; rfl)); clear hK K))
  refine wpMixH_loud rfl rfl (fun n4 K hK => ?_)
  go_wp2
  refine hK _ _ (fun _ => ((hsc.out _ _ _).2.2)) ?_; clear hK K
  refine wpMixH_nil (fun n5 => ?_)
  go_wp2
  refine wp_region_mixH (fun _ => True) [3, 3, 3, 3, 3, 1, 3, 1, 3, 3, 3, 3, 1, 3, 3, 3, 2] (List.range 17) (by kernel_rfl) (by kernel_rfl) (fun _ _ h => h) trivial ?_
  repeat ((first | refine wpMixH_pure rfl rfl (fun K hK => ?_) | refine wpMixH_loc rfl rfl (fun K hK => ?_) | refine wpMixH_any rfl rfl (fun K hK => ?_)); go_simp; refine hK _ _ ?_; clear hK K)
  refine wpMixH_loud rfl rfl (fun n9 K hK => ?_)
  go_wp2
  refine hK _ _ (fun _ => trivial) ?_; clear hK K
  refine wpMixH_nil (fun n10 => ?_)
  go_wp2
  have hlive : Hid (∀ wf mf nf tvf, LookW B wf b (((s.setL (s.tries.set tr ⟨x0.th, x0.first, i, x0.sn, x0.how, x0.rd, x0.wr⟩)).setT t ⟨1, wd, ws, tr⟩).setL ((s.tries.set tr ⟨x0.th, x0.first, i, x0.sn, x0.how, x0.rd, x0.wr⟩).set tr ⟨x0.th, x0.first, i, wd, x0.how, x0.rd, x0.wr⟩)) nf mf tvf → mf = m → (∃ mb, mf t = some mb ∧ B ≤ mb ∧ Mp wf mb .u64 nf (wfun ws)) ∧ ∀ k, k < 8 → k ≠ t → liveT ((((s.setL (s.tries.set tr ⟨x0.th, x0.first, i, x0.sn, x0.how, x0.rd, x0.wr⟩)).setT t ⟨1, wd, ws, tr⟩).setL ((s.tries.set tr ⟨x0.th, x0.first, i, x0.sn, x0.how, x0.rd, x0.wr⟩).set tr ⟨x0.th, x0.first, i, wd, x0.how, x0.rd, x0.wr⟩)).th k) → mf k ≠ mf t) := Lib.hid (fun wf mf nf tvf hf hm => by
    subst hm
    refine ⟨?_, fun k hk hkt hl => hap.out k hk hkt (by first | exact hl | simpa only [St.setT, St.setL, St.setH, St.setN, if_neg hkt] using hl)⟩
    obtain ⟨mb2, q1, q2, q3⟩ := hf.maps t ht (by unfold liveT; rw [show (((s.setL (s.tries.set tr ⟨x0.th, x0.first, i, x0.sn, x0.how, x0.rd, x0.wr⟩)).setT t ⟨1, wd, ws, tr⟩).setL ((s.tries.set tr ⟨x0.th, x0.first, i, x0.sn, x0.how, x0.rd, x0.wr⟩).set tr ⟨x0.th, x0.first, i, wd, x0.how, x0.rd, x0.wr⟩)).th t = _ from HTH.out]; simp)
    rw [show (((s.setL (s.tries.set tr ⟨x0.th, x0.first, i, x0.sn, x0.how, x0.rd, x0.wr⟩)).setT t ⟨1, wd, ws, tr⟩).setL ((s.tries.set tr ⟨x0.th, x0.first, i, x0.sn, x0.how, x0.rd, x0.wr⟩).set tr ⟨x0.th, x0.first, i, wd, x0.how, x0.rd, x0.wr⟩)).th t = _ from HTH.out] at q3
    exact ⟨mb2, q1, q2, q3⟩)
  refine bodyPost_end (results_none rfl _ _ _) rfl ⟨rfl, ?_, ?_⟩
  · exact below_drewNs ((below_drewNs ((below_drewNs ((below_drewNs ((below_drewNs hb1.out _).setCell hgB _) _).setCell hgb _) _).setCell hgB _) _).setCell hgb _) _
  · refine ⟨m, (.slice (some ⟨g, off, none⟩) s.tries.length cap), ?_⟩
    rw [hst.out]
    have FIN : ∀ j j3 j4 jj kk, LookW B (((((((((w1.drewN j).setCell ⟨g, off + tr * 7 + 2, none⟩ (.int .i64 i)).drewN j3).setCell ⟨b, 52 + t * 4 + 1, none⟩ (.int .u64 wd)).drewN j4).setCell ⟨g, off + tr * 7 + 3, none⟩ (.int .u64 wd)).drewN jj).setCell ⟨b, 52 + t * 4, none⟩ (.int .i64 (1 : Nat))).drewN kk) b ((((s.setL (s.tries.set tr ⟨x0.th, x0.first, i, x0.sn, x0.how, x0.rd, x0.wr⟩)).setT t ⟨1, wd, ws, tr⟩).setL ((s.tries.set tr ⟨x0.th, x0.first, i, x0.sn, x0.how, x0.rd, x0.wr⟩).set tr ⟨x0.th, x0.first, i, wd, x0.how, x0.rd, x0.wr⟩)).setT t ⟨1, wd, ws, tr⟩) (n + 1) m (.slice (some ⟨g, off, none⟩) s.tries.length cap) := fun j j3 j4 jj kk => by
      have hfin := (((hL4.out j j3 j4).drewN jj).setHow ht 1 (fun _ => by have := hlive.out _ _ _ _ ((hL4.out j j3 j4).drewN jj) rfl; rw [show (((s.setL (s.tries.set tr ⟨x0.th, x0.first, i, x0.sn, x0.how, x0.rd, x0.wr⟩)).setT t ⟨1, wd, ws, tr⟩).setL ((s.tries.set tr ⟨x0.th, x0.first, i, x0.sn, x0.how, x0.rd, x0.wr⟩).set tr ⟨x0.th, x0.first, i, wd, x0.how, x0.rd, x0.wr⟩)).th t = _ from HTH.out]; exact this))
      rw [show (((s.setL (s.tries.set tr ⟨x0.th, x0.first, i, x0.sn, x0.how, x0.rd, x0.wr⟩)).setT t ⟨1, wd, ws, tr⟩).setL ((s.tries.set tr ⟨x0.th, x0.first, i, x0.sn, x0.how, x0.rd, x0.wr⟩).set tr ⟨x0.th, x0.first, i, wd, x0.how, x0.rd, x0.wr⟩)).th t = _ from HTH.out] at hfin
      exact (hfin.drewN kk).mono (Nat.le_succ _)
    exact FIN _ _ _ _ _
end
end Go.Proofs.Yteoebfjhadmnbaa
/- (*events.look).take by contract: a Write. -/
namespace Go.Proofs.Yteoebfjhadmnbaa
open Go.RowKit
set_option maxHeartbeats 4000000
set_option linter.unusedVariables false
set_option linter.unusedSimpArgs false
theorem below_grown {B mb : Nat} {w0 w w' : World} (hb : Below B w0 w) (hg : w.grownBy w' (some mb)) (h1 : B ≤ mb) (h2 : mb < w.heap.size) : Below B w0 w' :=
  ⟨hg.os.trans hb.os, hg.tape.trans hb.tape, hg.output.trans hb.output, Nat.le_trans hb.size hg.size, fun k hk => (hg.block k (by omega) (fun e => by injection e with e; omega)).trans (hb.block k hk)⟩
section
variable {B b n : Nat} {w : World} {s : St} {m : Nat → Option Nat} {tv : Value}
set_option maxRecDepth 100000 in
theorem take_write (h : LookW B w b s n m tv) (hBw : B ≤ w.heap.size) (hs : StBd s n) (hn : n ≤ 1152921504606846976) {t i : Nat} {ad wd er : Int} {ow : Bool} (ht : t < 8) {sn : Int} {ws : List (Int × Int)} {tr : Nat} (hth : s.th t = ⟨1, sn, ws, tr⟩) :
    Calls Try.prog 57 #[.pointer (some ⟨b, 0, none⟩), .int .i64 i, evV ⟨t, 3, ad, wd, ow, er⟩] w fun x w' => x = .returned (.tuple #[]) ∧ Below B w w' ∧ ∃ m' tv', LookW B w' b (take s i ⟨t, 3, ad, wd, ow, er⟩) (n + 1) m' tv' := by
  have hb1 : Hid (Below B w (w.alloc (.cells #[.int .i64 t, .int .i64 3, .int .u64 ad, .int .u64 wd, .bool ow, .int .i64 er] 27))) := Lib.hid ((Below.refl _ w).alloc hBw _)
  have hL1 := h.alloc (.cells #[.int .i64 t, .int .i64 3, .int .u64 ad, .int .u64 wd, .bool ow, .int .i64 er] 27)
  have hE1 := Blk.new w 27 #[.int .i64 t, .int .i64 3, .int .u64 ad, .int .u64 wd, .bool ow, .int .i64 er]
  have hbe : b ≠ w.heap.size := Nat.ne_of_lt h.blk.lt
  have hx := hs.tr t (by unfold liveT; rw [hth]; simp)
  rw [hth] at hx
  dsimp only at hx
  have hcn := hs.cnt _ (List.getElem_mem hx)
  have hget := h.get
  obtain ⟨A, cap, rfl, hcap⟩ := h.tries.shape
  obtain ⟨g, off, rfl, hg, -⟩ := h.tries.cell encT_len (by decide) hx
  have hgB : B ≤ g := hget g (by simp [own, Value.ownBlock])
  have hge : g ≠ w.heap.size := Nat.ne_of_lt hg
  have hx' : (tr : Int) < (s.tries.length : Int) := by omega
  clear hcap hget hg
  generalize hW1 : w.alloc (.cells #[.int .i64 t, .int .i64 3, .int .u64 ad, .int .u64 wd, .bool ow, .int .i64 er] 27) = w1 at *
  replace hW1 := Lib.hid hW1
  have ht' : (t : Int) < 8 := by omega
  have hlv : liveT (s.th t) := by unfold liveT; rw [hth]; simp
  have c_how1 := hL1.c_how ht hth
  have c_tv1 := hL1.c_tv
  have c_tr1 := hL1.c_tr ht hth
  have e01 := (hE1.cell 0).trans (show _ = some (.int .i64 t) from rfl)
  have e11 := (hE1.cell 1).trans (show _ = some (.int .i64 3) from rfl)
  have f21 := (hL1.c_x (j := 2) hx (by decide)).2
  generalize hx0 : s.tries[tr] = x0 at *
  have x21 := (hL1.c_x (j := 2) hx (by decide)).1.trans (show _ = some (Value.int .i64 x0.last) from by rw [hx0]; rfl)
  have hup : Hid (take s i ⟨t, 3, ad, wd, ow, er⟩ = ⟨fun j => if j = t then tkT ⟨1, sn, ws, tr⟩ ⟨t, 3, ad, wd, ow, er⟩ s.tries.length else s.th j, if (3 : Int) = 6 ∧ 1 = 2 then wd else s.num, if (3 : Int) = 5 then t else if (3 : Int) = 6 ∧ 1 = 2 then -1 else s.hold, s.tries.set tr (updT x0 i ⟨t, 3, ad, wd, ow, er⟩)⟩) := Lib.hid ((take_in hth hx (by simp) (by simp) rfl).trans (by rw [hx0]))
  obtain ⟨mb, hmb, hmbB, -⟩ := h.maps t ht hlv
  have hap := Lib.hid (fun k (hk : k < 8) (hkt : k ≠ t) (hl : liveT (s.th k)) => h.apart k t hk ht hl hlv hkt)
  have hgb := h.geb
  have hL20 : ∀ j, LookW B ((w1.drewN j).setCell ⟨g, off + tr * 7 + 2, none⟩ (.int .i64 i)) b (s.setL (s.tries.set tr ⟨x0.th, x0.first, i, x0.sn, x0.how, x0.rd, x0.wr⟩)) n m (.slice (some ⟨g, off, none⟩) s.tries.length cap) := fun j => (hL1.drewN j).setX hx (by decide) _ _ (by rw [hx0]; rfl)
  have hE20 : ∀ j, Blk ((w1.drewN j).setCell ⟨g, off + tr * 7 + 2, none⟩ (.int .i64 i)) w.heap.size 27 #[.int .i64 t, .int .i64 3, .int .u64 ad, .int .u64 wd, .bool ow, .int .i64 er] := fun j => (hE1.drewN j).far (p := ⟨g, off + tr * 7 + 2, none⟩) hge.symm _
  have hL2 : ∀ j k, LookW B (((w1.drewN j).setCell ⟨g, off + tr * 7 + 2, none⟩ (.int .i64 i)).drew.drewN k) b (s.setL (s.tries.set tr ⟨x0.th, x0.first, i, x0.sn, x0.how, x0.rd, x0.wr⟩)) n m (.slice (some ⟨g, off, none⟩) s.tries.length cap) := fun j k => LookW.drewN (LookW.drewN (hL20 j) 1) k
  have hE2 : ∀ j k, Blk (((w1.drewN j).setCell ⟨g, off + tr * 7 + 2, none⟩ (.int .i64 i)).drew.drewN k) w.heap.size 27 #[.int .i64 t, .int .i64 3, .int .u64 ad, .int .u64 wd, .bool ow, .int .i64 er] := fun j k => ((hE20 j).drewN 1).drewN k
  have hx2 : tr < (s.tries.set tr ⟨x0.th, x0.first, i, x0.sn, x0.how, x0.rd, x0.wr⟩).length := by simpa using hx
  generalize hs2 : s.setL (s.tries.set tr ⟨x0.th, x0.first, i, x0.sn, x0.how, x0.rd, x0.wr⟩) = s2 at *
  have hth2 : s2.th t = ⟨1, sn, ws, tr⟩ := by rw [← hs2]; exact hth
  have htr2 : s2.tries = s.tries.set tr ⟨x0.th, x0.first, i, x0.sn, x0.how, x0.rd, x0.wr⟩ := by rw [← hs2]; rfl
  have e12 := fun j => ((hE20 j).cell 1).trans (show _ = some (.int .i64 3) from rfl)
  have e22 := fun j => ((hE20 j).cell 2).trans (show _ = some (.int .u64 ad) from rfl)
  have e32 := fun j => ((hE20 j).cell 3).trans (show _ = some (.int .u64 wd) from rfl)
  have cws2 := fun j => (hL20 j).c_ws ht hmb
  have hM2 : Hid (∀ j k, Mp (((w1.drewN j).setCell ⟨g, off + tr * 7 + 2, none⟩ (.int .i64 i)).drew.drewN k) mb .u64 n (wfun ws)) := Lib.hid fun j k => by
    obtain ⟨mb', q1, q2, q3⟩ := (hL2 j k).maps t ht (by unfold liveT; rw [hth2]; simp)
    rw [hmb] at q1
    injection q1 with q1
    subst q1
    rw [hth2] at q3
    exact q3
  have hme : mb ≠ w.heap.size := (hM2.out 0 0).ne_ (hE2 0 0)
  have hst : Hid (take s i ⟨t, 3, ad, wd, ow, er⟩ = ((s2.setT t ⟨1, sn, ws ++ [(ad, wd)], tr⟩).setL ((s.tries.set tr ⟨x0.th, x0.first, i, x0.sn, x0.how, x0.rd, x0.wr⟩).set tr ⟨x0.th, x0.first, i, x0.sn, x0.how, x0.rd, x0.wr + 1⟩)).setT t ⟨1, sn, ws ++ [(ad, wd)], tr⟩) := Lib.hid (by
    rw [hup.out, ← hs2]
    simp only [St.setT, St.setL, St.setN, St.setH, tkT, updT, tb, List.set_set]
    simp
    funext k
    split <;> rfl)
  have hapL := Lib.hid (fun k (hk : k < 8) (hkt : k ≠ t) (hl : liveT (s2.th k)) => hap.out k hk hkt (by rw [← hs2] at hl; exact hl))
  have hwr : (x0.wr : Int) ≤ 1152921504606846976 := by omega
  replace hwr := Lib.hid hwr
  replace hL1 := Lib.hid hL1
  replace hL2 := Lib.hid hL2
  replace hE2 := Lib.hid hE2
  replace hth := Lib.hid hth
  replace hth2 := Lib.hid hth2
  replace htr2 := Lib.hid htr2
  replace hx0 := Lib.hid hx0
  replace hmb := Lib.hid hmb
  replace hs2 := Lib.hid hs2
  replace hx2 := Lib.hid hx2
  have hmbB := Lib.hid hmbB
  unfold evV
  dsimp only at *
  clear h hs hn hE1 hup hcn hlv hL20 hE20
  go_enter Try.func57, Try.ntmps57
  go_wp2
  rw [hW1.out]
  refine wp_region_mixH (fun _ => True) [3, 3, 1, 3, 3, 3, 3] (List.range 7) (by kernel_rfl) (by kernel_rfl) (fun _ _ h => h) trivial ?_; (repeat (first | ((first | refine wpMixH_pure rfl rfl (fun K hK => ?_) | refine wpMixH_loc rfl rfl (fun K hK => ?_) | refine wpMixH_any rfl rfl (fun K hK => ?_)); go_simp; refine hK _ _ ?_; clear hK K) | (refine wpMixH_skip rfl (by go_simp) (fun K hK => ?_); go_simp; refine hK _ _ ?_; clear hK K) | fail)); refine wpMixH_nil (fun n1 => ?_)
  go_wp2
  refine wp_region_mixH (fun _ => True) [3, 3, 3, 1, 3, 3, 3, 1, 3, 3] (List.range 10) (by kernel_rfl) (by kernel_rfl) (fun _ _ h => h) trivial ?_; (repeat (first | ((first | refine wpMixH_pure rfl rfl (fun K hK => ?_) | refine wpMixH_loc rfl rfl (fun K hK => ?_) | refine wpMixH_any rfl rfl (fun K hK => ?_)); go_simp; refine hK _ _ ?_; clear hK K) | (refine wpMixH_skip rfl (by go_simp) (fun K hK => ?_); go_simp; refine hK _ _ ?_; clear hK K) | fail)); refine wpMixH_nil (fun n2 => ?_)
  go_wp2
  refine wp_region_mixH (fun _ => True) [3, 3, 3, 1, 3, 1, 3, 1, 2] (List.range 9) (by kernel_rfl) (by kernel_rfl) (fun _ _ h => h) trivial ?_
  repeat ((first | refine wpMixH_pure rfl rfl (fun K hK => ?_) | refine wpMixH_loc rfl rfl (fun K hK => ?_) | refine wpMixH_any rfl rfl (fun K hK => ?_)); go_simp; refine hK _ _ ?_; clear hK K)
  refine wpMixH_loud rfl rfl (fun n3 K hK => ?_)
  refine wpList_mapUpdate_mp _ rfl (.tmp 97) (.tmp 99) (.tmp 101) 90 rfl 24 24 .u64 Try.underlying90 Try.underlying24 mb n (wfun ws) rfl (hM2.out _ _) ad (.int .u64 wd) rfl rfl ?_
  intro w5 hM5 hg5 hz5
  have hL5 := LookW.put (hL2.out _ _) ht (by unfold liveT; rw [hth2.out]; exact .inl rfl) hmb.out hg5 (ad := ad) (wd := wd) (by rw [hth2.out]; exact hM5)
  rw [hth2.out] at hL5
  have hE5 := (hE2.out _ _).grown hg5 (fun e => hme (by injection e with e; exact e.symm))
  have hb5 := Lib.hid (below_grown (below_drewNs (below_drewNs ((below_drewNs hb1.out _).setCell hgB _) 1) _) hg5 hmbB.out (hM2.out _ _).lt)
  have hth5 : (s2.setT t ⟨1, sn, ws ++ [(ad, wd)], tr⟩).th t = ⟨1, sn, ws ++ [(ad, wd)], tr⟩ := St.setT_at _ _ _
  dsimp only at hL5
  have x65 := (hL5.c_x (j := 6) (by show tr < s2.tries.length; rw [htr2.out]; exact hx2.out) (by decide)).1.trans (show _ = some (.int .i64 x0.wr) from by simp only [St.setT, htr2.out, List.getElem_set_self, encT]; rfl)
  have f65 := (hL5.c_x (j := 6) (by show tr < s2.tries.length; rw [htr2.out]; exact hx2.out) (by decide)).2
  have hL6 : ∀ j, LookW B ((w5.drewN j).setCell ⟨g, off + tr * 7 + 6, none⟩ (.int .i64 (x0.wr + 1))) b ((s2.setT t ⟨1, sn, ws ++ [(ad, wd)], tr⟩).setL ((s.tries.set tr ⟨x0.th, x0.first, i, x0.sn, x0.how, x0.rd, x0.wr⟩).set tr ⟨x0.th, x0.first, i, x0.sn, x0.how, x0.rd, x0.wr + 1⟩)) (n + 1) m (.slice (some ⟨g, off, none⟩) s.tries.length cap) := fun j => by
    have := (hL5.drewN j).setX (tr := tr) (by show tr < s2.tries.length; rw [htr2.out]; exact hx2.out) (j := 6) (by decide) (.int .i64 (x0.wr + 1)) ⟨x0.th, x0.first, i, x0.sn, x0.how, x0.rd, x0.wr + 1⟩ (by simp only [St.setT, htr2.out, List.getElem_set_self, encT]; rfl)
    rw [show (s2.setT t ⟨1, sn, ws ++ [(ad, wd)], tr⟩).tries = s.tries.set tr ⟨x0.th, x0.first, i, x0.sn, x0.how, x0.rd, x0.wr⟩ from htr2.out] at this
    exact this
  have hE6 : ∀ j, Blk ((w5.drewN j).setCell ⟨g, off + tr * 7 + 6, none⟩ (.int .i64 (x0.wr + 1))) w.heap.size 27 #[.int .i64 t, .int .i64 3, .int .u64 ad, .int .u64 wd, .bool ow, .int .i64 er] := fun j => (hE5.drewN j).far (p := ⟨g, off + tr * 7 + 6, none⟩) hge.symm _
  have e16 := fun j => ((hE6 j).cell 1).trans (show _ = some (.int .i64 3) from rfl)
  have c_how6 := fun j => (hL6 j).c_how ht hth5
  have c_tb6 := fun j => (hL6 j).c_tb (i := 16) (hw := 1) (k := 3) (a := 2) (by decide) (by decide) rfl (by decide)
  have fz6 := fun j => (hL6 j).fz (52 + t * 4)
  replace hL6 := Lib.hid hL6
  have hwr1 := hwr.out
  have e15 := (hE5.cell 1).trans (show _ = some (.int .i64 3) from rfl)
  clear hM5 hg5 hz5 hL5 hE5 hE6 hth5
  go_wp2
  refine hK _ _ (fun _ => trivial) ?_; clear hK K
  refine wpMixH_nil (fun n4 => ?_)
  go_wp2
  clear hwr1
  refine wp_region_mixH (fun _ => True) [3, 3, 3, 3, 3, 1, 3, 1, 3, 3, 3, 3, 1, 3, 3, 3, 2] (List.range 17) (by kernel_rfl) (by kernel_rfl) (fun _ _ h => h) trivial ?_
  repeat ((first | refine wpMixH_pure rfl rfl (fun K hK => ?_) | refine wpMixH_loc rfl rfl (fun K hK => ?_) | refine wpMixH_any rfl rfl (fun K hK => ?_)); go_simp; refine hK _ _ ?_; clear hK K)
  refine wpMixH_loud rfl rfl (fun n9 K hK => ?_)
  go_wp2
  refine hK _ _ (fun _ => trivial) ?_; clear hK K
  refine wpMixH_nil (fun n10 => ?_)
  go_wp2
  refine bodyPost_end (results_none rfl _ _ _) rfl ⟨rfl, ?_, ?_⟩
  · exact below_drewNs ((below_drewNs ((below_drewNs hb5.out _).setCell hgB _) _).setCell hgb _) _
  · refine ⟨m, (.slice (some ⟨g, off, none⟩) s.tries.length cap), ?_⟩
    rw [hst.out]
    have FIN : ∀ j jj kk, LookW B (((((w5.drewN j).setCell ⟨g, off + tr * 7 + 6, none⟩ (.int .i64 (x0.wr + 1))).drewN jj).setCell ⟨b, 52 + t * 4, none⟩ (.int .i64 (1 : Nat))).drewN kk) b (((s2.setT t ⟨1, sn, ws ++ [(ad, wd)], tr⟩).setL ((s.tries.set tr ⟨x0.th, x0.first, i, x0.sn, x0.how, x0.rd, x0.wr⟩).set tr ⟨x0.th, x0.first, i, x0.sn, x0.how, x0.rd, x0.wr + 1⟩)).setT t ⟨1, sn, ws ++ [(ad, wd)], tr⟩) (n + 1) m (.slice (some ⟨g, off, none⟩) s.tries.length cap) := fun j jj kk => by
      have hT : ((s2.setT t ⟨1, sn, ws ++ [(ad, wd)], tr⟩).setL ((s.tries.set tr ⟨x0.th, x0.first, i, x0.sn, x0.how, x0.rd, x0.wr⟩).set tr ⟨x0.th, x0.first, i, x0.sn, x0.how, x0.rd, x0.wr + 1⟩)).th t = ⟨1, sn, ws ++ [(ad, wd)], tr⟩ := St.setT_at _ _ _
      have hfin := (((hL6.out j).drewN jj).setHow ht 1 (fun _ => by
        refine ⟨((hL6.out j).drewN jj).maps t ht (by unfold liveT; rw [hT]; exact .inl rfl), fun k hk hkt hl => hapL.out k hk hkt ?_⟩
        simpa only [St.setT, St.setL, if_neg hkt] using hl))
      rw [hT] at hfin
      exact hfin.drewN kk
    exact FIN _ _ _
end
end Go.Proofs.Yteoebfjhadmnbaa
