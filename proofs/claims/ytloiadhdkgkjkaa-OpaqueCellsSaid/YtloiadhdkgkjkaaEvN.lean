/- (*events.look).take by contract: kind by kind (printed by ev/mktake.py). -/
import Derived.Test.YtloiadhdkgkjkaaEvJ
import Derived.Test.YtloiadhdkgkjkaaMixH
namespace Go.Proofs.Ytloiadhdkgkjkaa
open Go.RowKit
set_option maxHeartbeats 4000000
set_option linter.unusedVariables false
set_option linter.unusedSimpArgs false
section
variable {B b n : Nat} {w : World} {s : St} {m : Nat → Option Nat} {tv : Value}
set_option maxRecDepth 100000 in
theorem take_locked (h : LookW B w b s n m tv) (hBw : B ≤ w.heap.size) (hs : StBd s n) (hn : n ≤ 1152921504606846976) {t i : Nat} {ad wd er : Int} {ow : Bool} (ht : t < 8) {sn : Int} {ws : List (Int × Int)} {tr : Nat} (hth : s.th t = ⟨1, sn, ws, tr⟩) :
    Calls Try.prog 74 #[.pointer (some ⟨b, 0, none⟩), .int .i64 i, evV ⟨t, 5, ad, wd, ow, er⟩] w fun x w' => x = .returned (.tuple #[]) ∧ Below B w w' ∧ ∃ m' tv', LookW B w' b (take s i ⟨t, 5, ad, wd, ow, er⟩) (n + 1) m' tv' := by
  have hb1 : Hid (Below B w (w.alloc (.cells #[.int .i64 t, .int .i64 5, .int .u64 ad, .int .u64 wd, .bool ow, .int .i64 er] 61))) := Lib.hid ((Below.refl _ w).alloc hBw _)
  have hL1 := h.alloc (.cells #[.int .i64 t, .int .i64 5, .int .u64 ad, .int .u64 wd, .bool ow, .int .i64 er] 61)
  have hE1 := Blk.new w 61 #[.int .i64 t, .int .i64 5, .int .u64 ad, .int .u64 wd, .bool ow, .int .i64 er]
  have hbe : b ≠ w.heap.size := Nat.ne_of_lt h.blk.lt
  have hx := hs.tr t (by unfold liveT; rw [hth]; simp)
  rw [hth] at hx
  dsimp only at hx
  have hcn := hs.cnt _ (List.getElem_mem hx)
  have hget := h.get
  obtain ⟨A, cap, rfl, hcap⟩ := h.tries.shape
  obtain ⟨g, off, rfl, hg, -⟩ := h.tries.cell encT_len (by decide) hx
  have hgB : B ≤ g := hget g (by simp [own, Value.ownBlock])
  have hge : g ≠ w.heap.size := Nat.ne_of_lt hg
  have hx' : (tr : Int) < (s.tries.length : Int) := by omega
  clear hcap hget hg
  generalize hW1 : w.alloc (.cells #[.int .i64 t, .int .i64 5, .int .u64 ad, .int .u64 wd, .bool ow, .int .i64 er] 61) = w1 at *
  replace hW1 := Lib.hid hW1
  have ht' : (t : Int) < 8 := by omega
  have c_how1 := hL1.c_how ht (hth)
  have c_tv1 := hL1.c_tv
  have c_tr1 := hL1.c_tr ht (hth)
  have e01 := (hE1.cell 0).trans (show _ = some (.int .i64 t) from rfl)
  have e11 := (hE1.cell 1).trans (show _ = some (.int .i64 5) from rfl)
  have f21 := (hL1.c_x (j := 2) hx (by decide)).2
  generalize hx0 : s.tries[tr] = x0 at *
  have x21 := (hL1.c_x (j := 2) hx (by decide)).1.trans (show _ = some (Value.int .i64 x0.last) from by rw [hx0]; rfl)
  have hup : Hid (take s i ⟨t, 5, ad, wd, ow, er⟩ = ⟨fun j => if j = t then tkT ⟨1, sn, ws, tr⟩ ⟨t, 5, ad, wd, ow, er⟩ s.tries.length else s.th j, if (5 : Int) = 6 ∧ 1 = 2 then wd else s.num, if (5 : Int) = 5 then t else if (5 : Int) = 6 ∧ 1 = 2 then -1 else s.hold, s.tries.set tr (updT x0 i ⟨t, 5, ad, wd, ow, er⟩)⟩) := Lib.hid ((take_in hth hx (by simp) (by simp) rfl).trans (by rw [hx0]))
  obtain ⟨mb, hmb, hmbB, hMp⟩ := h.maps t ht (by unfold liveT; rw [hth]; simp)
  have hap := Lib.hid (fun k (hk : k < 8) (hkt : k ≠ t) (hl : liveT (s.th k)) => h.apart k t hk ht hl (by unfold liveT; rw [hth]; simp) hkt)
  clear hMp
  have hL2 : ∀ j, LookW B ((w1.drewN j).setCell ⟨g, off + tr * 7 + 2, none⟩ (.int .i64 i)) b (s.setL (s.tries.set tr ⟨x0.th, x0.first, i, x0.sn, x0.how, x0.rd, x0.wr⟩)) n m (.slice (some ⟨g, off, none⟩) s.tries.length cap) := fun j => (hL1.drewN j).setX hx (by decide) _ _ (by rw [hx0]; rfl)
  have hE2 : ∀ j, Blk ((w1.drewN j).setCell ⟨g, off + tr * 7 + 2, none⟩ (.int .i64 i)) w.heap.size 61 #[.int .i64 t, .int .i64 5, .int .u64 ad, .int .u64 wd, .bool ow, .int .i64 er] := fun j => (hE1.drewN j).far (p := ⟨g, off + tr * 7 + 2, none⟩) hge.symm _
  have hx2 : tr < (s.tries.set tr ⟨x0.th, x0.first, i, x0.sn, x0.how, x0.rd, x0.wr⟩).length := by simpa using hx
  have hgb := h.geb
  have hth2 : (s.setL (s.tries.set tr ⟨x0.th, x0.first, i, x0.sn, x0.how, x0.rd, x0.wr⟩)).th t = ⟨1, sn, ws, tr⟩ := hth
  have e12 := fun j => ((hE2 j).cell 1).trans (show _ = some (.int .i64 5) from rfl)
  have e02 := fun j => ((hE2 j).cell 0).trans (show _ = some (.int .i64 t) from rfl)
  have fz852 := fun j => (hL2 j).fz (85)
  have c_hold2 := fun j => (hL2 j).c_hold
  have hL3 : ∀ j, LookW B (((w1.drewN j).setCell ⟨g, off + tr * 7 + 2, none⟩ (.int .i64 i)).setCell ⟨b, 85, none⟩ (.int .i64 t)) b ((s.setL (s.tries.set tr ⟨x0.th, x0.first, i, x0.sn, x0.how, x0.rd, x0.wr⟩)).setH t) n m (.slice (some ⟨g, off, none⟩) s.tries.length cap) := fun j => (hL2 j).setHold t
  have hE3 : ∀ j, Blk (((w1.drewN j).setCell ⟨g, off + tr * 7 + 2, none⟩ (.int .i64 i)).setCell ⟨b, 85, none⟩ (.int .i64 t)) w.heap.size 61 #[.int .i64 t, .int .i64 5, .int .u64 ad, .int .u64 wd, .bool ow, .int .i64 er] := fun j => (hE2 j).far (p := ⟨b, 85, none⟩) hbe.symm _
  have hth3 : ((s.setL (s.tries.set tr ⟨x0.th, x0.first, i, x0.sn, x0.how, x0.rd, x0.wr⟩)).setH t).th t = ⟨1, sn, ws, tr⟩ := hth
  have c_how3 := fun j => (hL3 j).c_how ht (hth3)
  have c_tb3 := fun j => (hL3 j).c_tb (i := 18) (hw := 1) (k := 5) (a := 3) (by decide) (by decide) rfl (by decide)
  have e13 := fun j => ((hE3 j).cell 1).trans (show _ = some (.int .i64 5) from rfl)
  have fz52t43 := fun j => (hL3 j).fz (52 + t * 4)
  have hst : Hid (take s i ⟨t, 5, ad, wd, ow, er⟩ = ((s.setL (s.tries.set tr ⟨x0.th, x0.first, i, x0.sn, x0.how, x0.rd, x0.wr⟩)).setH t).setT t ⟨2, sn, ws, tr⟩) := Lib.hid (by rw [hup.out]; simp only [St.setT, St.setL, St.setN, St.setH, tkT, updT, tb, List.set_set]; simp)
  have HTH : ((s.setL (s.tries.set tr ⟨x0.th, x0.first, i, x0.sn, x0.how, x0.rd, x0.wr⟩)).setH t).th t = ⟨1, sn, ws, tr⟩ := hth3
  replace HTH := Lib.hid HTH
  replace hL1 := Lib.hid hL1
  replace hL2 := Lib.hid hL2
  replace hL3 := Lib.hid hL3
  replace hth := Lib.hid hth
  replace hx0 := Lib.hid hx0
  replace hmb := Lib.hid hmb
  unfold evV
  dsimp only at *
  clear h hs hn hE1 hE2 hth2 hup hx2 hE3 hth3 hcn
  go_enter Try.func74, Try.ntmps74
  go_wp2
  rw [hW1.out]
  refine wp_region_mixH (fun _ => True) [3, 3, 1, 3, 3, 3, 3] (List.range 7) (by kernel_rfl) (by kernel_rfl) (fun _ _ h => h) trivial ?_; (repeat (first | ((first | refine wpMixH_pure rfl rfl (fun K hK => ?_) | refine wpMixH_loc rfl rfl (fun K hK => ?_) | refine wpMixH_any rfl rfl (fun K hK => ?_)); go_simp; refine hK _ _ ?_; clear hK K) | (refine wpMixH_skip rfl (by go_simp) (fun K hK => ?_); go_simp; refine hK _ _ ?_; clear hK K) | fail)); refine wpMixH_nil (fun n1 => ?_)
  go_wp2
  refine wp_region_mixH (fun _ => True) [3, 3, 3, 1, 3, 3, 3, 1, 3, 3] (List.range 10) (by kernel_rfl) (by kernel_rfl) (fun _ _ h => h) trivial ?_; (repeat (first | ((first | refine wpMixH_pure rfl rfl (fun K hK => ?_) | refine wpMixH_loc rfl rfl (fun K hK => ?_) | refine wpMixH_any rfl rfl (fun K hK => ?_)); go_simp; refine hK _ _ ?_; clear hK K) | (refine wpMixH_skip rfl (by go_simp) (fun K hK => ?_); go_simp; refine hK _ _ ?_; clear hK K) | fail)); refine wpMixH_nil (fun n2 => ?_)
  go_wp2
  refine wp_region_mixH (fun _ => True) [3, 3, 3, 3, 3, 1, 3, 1, 3, 3, 3, 3, 1, 3, 3, 3, 2] (List.range 17) (by kernel_rfl) (by kernel_rfl) (fun _ _ h => h) trivial ?_
  repeat ((first | refine wpMixH_pure rfl rfl (fun K hK => ?_) | refine wpMixH_loc rfl rfl (fun K hK => ?_) | refine wpMixH_any rfl rfl (fun K hK => ?_)); go_simp; refine hK _ _ ?_; clear hK K)
  refine wpMixH_loud rfl rfl (fun n9 K hK => ?_)
  go_wp2
  refine hK _ _ (fun _ => trivial) ?_; clear hK K
  refine wpMixH_nil (fun n10 => ?_)
  go_wp2
  have hlive : Hid (∀ wf mf nf tvf, LookW B wf b ((s.setL (s.tries.set tr ⟨x0.th, x0.first, i, x0.sn, x0.how, x0.rd, x0.wr⟩)).setH t) nf mf tvf → mf = m → (∃ mb, mf t = some mb ∧ B ≤ mb ∧ Mp wf mb .u64 nf (wfun ws)) ∧ ∀ k, k < 8 → k ≠ t → liveT (((s.setL (s.tries.set tr ⟨x0.th, x0.first, i, x0.sn, x0.how, x0.rd, x0.wr⟩)).setH t).th k) → mf k ≠ mf t) := Lib.hid (fun wf mf nf tvf hf hm => by
    subst hm
    refine ⟨?_, fun k hk hkt hl => hap.out k hk hkt hl⟩
    obtain ⟨mb2, q1, q2, q3⟩ := hf.maps t ht (by unfold liveT; rw [show ((s.setL (s.tries.set tr ⟨x0.th, x0.first, i, x0.sn, x0.how, x0.rd, x0.wr⟩)).setH t).th t = _ from HTH.out]; simp)
    rw [show ((s.setL (s.tries.set tr ⟨x0.th, x0.first, i, x0.sn, x0.how, x0.rd, x0.wr⟩)).setH t).th t = _ from HTH.out] at q3
    exact ⟨mb2, q1, q2, q3⟩)
  refine bodyPost_end (results_none rfl _ _ _) rfl ⟨rfl, ?_, ?_⟩
  · exact below_drewNs ((below_drewNs (((below_drewNs hb1.out _).setCell hgB _).setCell hgb _) _).setCell hgb _) _
  · refine ⟨m, (.slice (some ⟨g, off, none⟩) s.tries.length cap), ?_⟩
    rw [hst.out]
    have FIN : ∀ j jj kk, LookW B ((((((w1.drewN j).setCell ⟨g, off + tr * 7 + 2, none⟩ (.int .i64 i)).setCell ⟨b, 85, none⟩ (.int .i64 t)).drewN jj).setCell ⟨b, 52 + t * 4, none⟩ (.int .i64 (2 : Nat))).drewN kk) b (((s.setL (s.tries.set tr ⟨x0.th, x0.first, i, x0.sn, x0.how, x0.rd, x0.wr⟩)).setH t).setT t ⟨2, sn, ws, tr⟩) (n + 1) m (.slice (some ⟨g, off, none⟩) s.tries.length cap) := fun j jj kk => by
      have hfin := (((hL3.out j).drewN jj).setHow ht 2 (fun _ => by have := hlive.out _ _ _ _ ((hL3.out j).drewN jj) rfl; rw [show ((s.setL (s.tries.set tr ⟨x0.th, x0.first, i, x0.sn, x0.how, x0.rd, x0.wr⟩)).setH t).th t = _ from HTH.out]; exact this))
      rw [show ((s.setL (s.tries.set tr ⟨x0.th, x0.first, i, x0.sn, x0.how, x0.rd, x0.wr⟩)).setH t).th t = _ from HTH.out] at hfin
      exact (hfin.drewN kk).mono (Nat.le_succ _)
    exact FIN _ _ _
set_option maxRecDepth 100000 in
theorem take_own (h : LookW B w b s n m tv) (hBw : B ≤ w.heap.size) (hs : StBd s n) (hn : n ≤ 1152921504606846976) {t i : Nat} {ad wd er : Int} (ht : t < 8) {sn : Int} {ws : List (Int × Int)} {tr : Nat} (hth : s.th t = ⟨1, sn, ws, tr⟩) :
    Calls Try.prog 74 #[.pointer (some ⟨b, 0, none⟩), .int .i64 i, evV ⟨t, 2, ad, wd, true, er⟩] w fun x w' => x = .returned (.tuple #[]) ∧ Below B w w' ∧ ∃ m' tv', LookW B w' b (take s i ⟨t, 2, ad, wd, true, er⟩) (n + 1) m' tv' := by
  have hb1 : Hid (Below B w (w.alloc (.cells #[.int .i64 t, .int .i64 2, .int .u64 ad, .int .u64 wd, .bool true, .int .i64 er] 61))) := Lib.hid ((Below.refl _ w).alloc hBw _)
  have hL1 := h.alloc (.cells #[.int .i64 t, .int .i64 2, .int .u64 ad, .int .u64 wd, .bool true, .int .i64 er] 61)
  have hE1 := Blk.new w 61 #[.int .i64 t, .int .i64 2, .int .u64 ad, .int .u64 wd, .bool true, .int .i64 er]
  have hbe : b ≠ w.heap.size := Nat.ne_of_lt h.blk.lt
  have hx := hs.tr t (by unfold liveT; rw [hth]; simp)
  rw [hth] at hx
  dsimp only at hx
  have hcn := hs.cnt _ (List.getElem_mem hx)
  have hget := h.get
  obtain ⟨A, cap, rfl, hcap⟩ := h.tries.shape
  obtain ⟨g, off, rfl, hg, -⟩ := h.tries.cell encT_len (by decide) hx
  have hgB : B ≤ g := hget g (by simp [own, Value.ownBlock])
  have hge : g ≠ w.heap.size := Nat.ne_of_lt hg
  have hx' : (tr : Int) < (s.tries.length : Int) := by omega
  clear hcap hget hg
  generalize hW1 : w.alloc (.cells #[.int .i64 t, .int .i64 2, .int .u64 ad, .int .u64 wd, .bool true, .int .i64 er] 61) = w1 at *
  replace hW1 := Lib.hid hW1
  have ht' : (t : Int) < 8 := by omega
  have c_how1 := hL1.c_how ht (hth)
  have c_tv1 := hL1.c_tv
  have c_tr1 := hL1.c_tr ht (hth)
  have e01 := (hE1.cell 0).trans (show _ = some (.int .i64 t) from rfl)
  have e11 := (hE1.cell 1).trans (show _ = some (.int .i64 2) from rfl)
  have f21 := (hL1.c_x (j := 2) hx (by decide)).2
  generalize hx0 : s.tries[tr] = x0 at *
  have x21 := (hL1.c_x (j := 2) hx (by decide)).1.trans (show _ = some (Value.int .i64 x0.last) from by rw [hx0]; rfl)
  have hup : Hid (take s i ⟨t, 2, ad, wd, true, er⟩ = ⟨fun j => if j = t then tkT ⟨1, sn, ws, tr⟩ ⟨t, 2, ad, wd, true, er⟩ s.tries.length else s.th j, if (2 : Int) = 6 ∧ 1 = 2 then wd else s.num, if (2 : Int) = 5 then t else if (2 : Int) = 6 ∧ 1 = 2 then -1 else s.hold, s.tries.set tr (updT x0 i ⟨t, 2, ad, wd, true, er⟩)⟩) := Lib.hid ((take_in hth hx (by simp) (by simp) rfl).trans (by rw [hx0]))
  obtain ⟨mb, hmb, hmbB, hMp⟩ := h.maps t ht (by unfold liveT; rw [hth]; simp)
  have hap := Lib.hid (fun k (hk : k < 8) (hkt : k ≠ t) (hl : liveT (s.th k)) => h.apart k t hk ht hl (by unfold liveT; rw [hth]; simp) hkt)
  clear hMp
  have hL2 : ∀ j, LookW B ((w1.drewN j).setCell ⟨g, off + tr * 7 + 2, none⟩ (.int .i64 i)) b (s.setL (s.tries.set tr ⟨x0.th, x0.first, i, x0.sn, x0.how, x0.rd, x0.wr⟩)) n m (.slice (some ⟨g, off, none⟩) s.tries.length cap) := fun j => (hL1.drewN j).setX hx (by decide) _ _ (by rw [hx0]; rfl)
  have hE2 : ∀ j, Blk ((w1.drewN j).setCell ⟨g, off + tr * 7 + 2, none⟩ (.int .i64 i)) w.heap.size 61 #[.int .i64 t, .int .i64 2, .int .u64 ad, .int .u64 wd, .bool true, .int .i64 er] := fun j => (hE1.drewN j).far (p := ⟨g, off + tr * 7 + 2, none⟩) hge.symm _
  have hx2 : tr < (s.tries.set tr ⟨x0.th, x0.first, i, x0.sn, x0.how, x0.rd, x0.wr⟩).length := by simpa using hx
  have hgb := h.geb
  have hth2 : (s.setL (s.tries.set tr ⟨x0.th, x0.first, i, x0.sn, x0.how, x0.rd, x0.wr⟩)).th t = ⟨1, sn, ws, tr⟩ := hth
  have e12 := fun j => ((hE2 j).cell 1).trans (show _ = some (.int .i64 2) from rfl)
  have e42 := fun j => ((hE2 j).cell 4).trans (show _ = some (.bool true) from rfl)
  have c_how2 := fun j => (hL2 j).c_how ht (hth2)
  have c_tb2 := fun j => (hL2 j).c_tb (i := 15) (hw := 1) (k := 2) (a := 2) (by decide) (by decide) rfl (by decide)
  have fz52t42 := fun j => (hL2 j).fz (52 + t * 4)
  have hst : Hid (take s i ⟨t, 2, ad, wd, true, er⟩ = (s.setL (s.tries.set tr ⟨x0.th, x0.first, i, x0.sn, x0.how, x0.rd, x0.wr⟩)).setT t ⟨1, sn, ws, tr⟩) := Lib.hid (by rw [hup.out]; simp only [St.setT, St.setL, St.setN, St.setH, tkT, updT, tb, List.set_set]; simp)
  have HTH : (s.setL (s.tries.set tr ⟨x0.th, x0.first, i, x0.sn, x0.how, x0.rd, x0.wr⟩)).th t = ⟨1, sn, ws, tr⟩ := hth2
  replace HTH := Lib.hid HTH
  replace hL1 := Lib.hid hL1
  replace hL2 := Lib.hid hL2
  replace hth := Lib.hid hth
  replace hx0 := Lib.hid hx0
  replace hmb := Lib.hid hmb
  unfold evV
  dsimp only at *
  clear h hs hn hE1 hE2 hth2 hup hx2 hcn
  go_enter Try.func74, Try.ntmps74
  go_wp2
  rw [hW1.out]
  refine wp_region_mixH (fun _ => True) [3, 3, 1, 3, 3, 3, 3] (List.range 7) (by kernel_rfl) (by kernel_rfl) (fun _ _ h => h) trivial ?_; (repeat (first | ((first | refine wpMixH_pure rfl rfl (fun K hK => ?_) | refine wpMixH_loc rfl rfl (fun K hK => ?_) | refine wpMixH_any rfl rfl (fun K hK => ?_)); go_simp; refine hK _ _ ?_; clear hK K) | (refine wpMixH_skip rfl (by go_simp) (fun K hK => ?_); go_simp; refine hK _ _ ?_; clear hK K) | fail)); refine wpMixH_nil (fun n1 => ?_)
  go_wp2
  refine wp_region_mixH (fun _ => True) [3, 3, 3, 1, 3, 3, 3, 1, 3, 3] (List.range 10) (by kernel_rfl) (by kernel_rfl) (fun _ _ h => h) trivial ?_; (repeat (first | ((first | refine wpMixH_pure rfl rfl (fun K hK => ?_) | refine wpMixH_loc rfl rfl (fun K hK => ?_) | refine wpMixH_any rfl rfl (fun K hK => ?_)); go_simp; refine hK _ _ ?_; clear hK K) | (refine wpMixH_skip rfl (by go_simp) (fun K hK => ?_); go_simp; refine hK _ _ ?_; clear hK K) | fail)); refine wpMixH_nil (fun n2 => ?_)
  go_wp2
  refine wp_region_mixH (fun _ => True) [3, 3, 3, 3, 3, 1, 3, 1, 3, 3, 3, 3, 1, 3, 3, 3, 2] (List.range 17) (by kernel_rfl) (by kernel_rfl) (fun _ _ h => h) trivial ?_
  repeat ((first | refine wpMixH_pure rfl rfl (fun K hK => ?_) | refine wpMixH_loc rfl rfl (fun K hK => ?_) | refine wpMixH_any rfl rfl (fun K hK => ?_)); go_simp; refine hK _ _ ?_; clear hK K)
  refine wpMixH_loud rfl rfl (fun n9 K hK => ?_)
  go_wp2
  refine hK _ _ (fun _ => trivial) ?_; clear hK K
  refine wpMixH_nil (fun n10 => ?_)
  go_wp2
  have hlive : Hid (∀ wf mf nf tvf, LookW B wf b (s.setL (s.tries.set tr ⟨x0.th, x0.first, i, x0.sn, x0.how, x0.rd, x0.wr⟩)) nf mf tvf → mf = m → (∃ mb, mf t = some mb ∧ B ≤ mb ∧ Mp wf mb .u64 nf (wfun ws)) ∧ ∀ k, k < 8 → k ≠ t → liveT ((s.setL (s.tries.set tr ⟨x0.th, x0.first, i, x0.sn, x0.how, x0.rd, x0.wr⟩)).th k) → mf k ≠ mf t) := Lib.hid (fun wf mf nf tvf hf hm => by
    subst hm
    refine ⟨?_, fun k hk hkt hl => hap.out k hk hkt hl⟩
    obtain ⟨mb2, q1, q2, q3⟩ := hf.maps t ht (by unfold liveT; rw [show (s.setL (s.tries.set tr ⟨x0.th, x0.first, i, x0.sn, x0.how, x0.rd, x0.wr⟩)).th t = _ from HTH.out]; simp)
    rw [show (s.setL (s.tries.set tr ⟨x0.th, x0.first, i, x0.sn, x0.how, x0.rd, x0.wr⟩)).th t = _ from HTH.out] at q3
    exact ⟨mb2, q1, q2, q3⟩)
  refine bodyPost_end (results_none rfl _ _ _) rfl ⟨rfl, ?_, ?_⟩
  · exact below_drewNs ((below_drewNs ((below_drewNs hb1.out _).setCell hgB _) _).setCell hgb _) _
  · refine ⟨m, (.slice (some ⟨g, off, none⟩) s.tries.length cap), ?_⟩
    rw [hst.out]
    have FIN : ∀ j jj kk, LookW B (((((w1.drewN j).setCell ⟨g, off + tr * 7 + 2, none⟩ (.int .i64 i)).drewN jj).setCell ⟨b, 52 + t * 4, none⟩ (.int .i64 (1 : Nat))).drewN kk) b ((s.setL (s.tries.set tr ⟨x0.th, x0.first, i, x0.sn, x0.how, x0.rd, x0.wr⟩)).setT t ⟨1, sn, ws, tr⟩) (n + 1) m (.slice (some ⟨g, off, none⟩) s.tries.length cap) := fun j jj kk => by
      have hfin := (((hL2.out j).drewN jj).setHow ht 1 (fun _ => by have := hlive.out _ _ _ _ ((hL2.out j).drewN jj) rfl; rw [show (s.setL (s.tries.set tr ⟨x0.th, x0.first, i, x0.sn, x0.how, x0.rd, x0.wr⟩)).th t = _ from HTH.out]; exact this))
      rw [show (s.setL (s.tries.set tr ⟨x0.th, x0.first, i, x0.sn, x0.how, x0.rd, x0.wr⟩)).th t = _ from HTH.out] at hfin
      exact (hfin.drewN kk).mono (Nat.le_succ _)
    exact FIN _ _ _
set_option maxRecDepth 100000 in
theorem take_read (h : LookW B w b s n m tv) (hBw : B ≤ w.heap.size) (hs : StBd s n) (hn : n ≤ 1152921504606846976) {t i : Nat} {ad wd er : Int} (ht : t < 8) {sn : Int} {ws : List (Int × Int)} {tr : Nat} (hth : s.th t = ⟨1, sn, ws, tr⟩) :
    Calls Try.prog 74 #[.pointer (some ⟨b, 0, none⟩), .int .i64 i, evV ⟨t, 2, ad, wd, false, er⟩] w fun x w' => x = .returned (.tuple #[]) ∧ Below B w w' ∧ ∃ m' tv', LookW B w' b (take s i ⟨t, 2, ad, wd, false, er⟩) (n + 1) m' tv' := by
  have hb1 : Hid (Below B w (w.alloc (.cells #[.int .i64 t, .int .i64 2, .int .u64 ad, .int .u64 wd, .bool false, .int .i64 er] 61))) := Lib.hid ((Below.refl _ w).alloc hBw _)
  have hL1 := h.alloc (.cells #[.int .i64 t, .int .i64 2, .int .u64 ad, .int .u64 wd, .bool false, .int .i64 er] 61)
  have hE1 := Blk.new w 61 #[.int .i64 t, .int .i64 2, .int .u64 ad, .int .u64 wd, .bool false, .int .i64 er]
  have hbe : b ≠ w.heap.size := Nat.ne_of_lt h.blk.lt
  have hx := hs.tr t (by unfold liveT; rw [hth]; simp)
  rw [hth] at hx
  dsimp only at hx
  have hcn := hs.cnt _ (List.getElem_mem hx)
  have hget := h.get
  obtain ⟨A, cap, rfl, hcap⟩ := h.tries.shape
  obtain ⟨g, off, rfl, hg, -⟩ := h.tries.cell encT_len (by decide) hx
  have hgB : B ≤ g := hget g (by simp [own, Value.ownBlock])
  have hge : g ≠ w.heap.size := Nat.ne_of_lt hg
  have hx' : (tr : Int) < (s.tries.length : Int) := by omega
  clear hcap hget hg
  generalize hW1 : w.alloc (.cells #[.int .i64 t, .int .i64 2, .int .u64 ad, .int .u64 wd, .bool false, .int .i64 er] 61) = w1 at *
  replace hW1 := Lib.hid hW1
  have ht' : (t : Int) < 8 := by omega
  have c_how1 := hL1.c_how ht (hth)
  have c_tv1 := hL1.c_tv
  have c_tr1 := hL1.c_tr ht (hth)
  have e01 := (hE1.cell 0).trans (show _ = some (.int .i64 t) from rfl)
  have e11 := (hE1.cell 1).trans (show _ = some (.int .i64 2) from rfl)
  have f21 := (hL1.c_x (j := 2) hx (by decide)).2
  generalize hx0 : s.tries[tr] = x0 at *
  have x21 := (hL1.c_x (j := 2) hx (by decide)).1.trans (show _ = some (Value.int .i64 x0.last) from by rw [hx0]; rfl)
  have hup : Hid (take s i ⟨t, 2, ad, wd, false, er⟩ = ⟨fun j => if j = t then tkT ⟨1, sn, ws, tr⟩ ⟨t, 2, ad, wd, false, er⟩ s.tries.length else s.th j, if (2 : Int) = 6 ∧ 1 = 2 then wd else s.num, if (2 : Int) = 5 then t else if (2 : Int) = 6 ∧ 1 = 2 then -1 else s.hold, s.tries.set tr (updT x0 i ⟨t, 2, ad, wd, false, er⟩)⟩) := Lib.hid ((take_in hth hx (by simp) (by simp) rfl).trans (by rw [hx0]))
  obtain ⟨mb, hmb, hmbB, hMp⟩ := h.maps t ht (by unfold liveT; rw [hth]; simp)
  have hap := Lib.hid (fun k (hk : k < 8) (hkt : k ≠ t) (hl : liveT (s.th k)) => h.apart k t hk ht hl (by unfold liveT; rw [hth]; simp) hkt)
  clear hMp
  have hL2 : ∀ j, LookW B ((w1.drewN j).setCell ⟨g, off + tr * 7 + 2, none⟩ (.int .i64 i)) b (s.setL (s.tries.set tr ⟨x0.th, x0.first, i, x0.sn, x0.how, x0.rd, x0.wr⟩)) n m (.slice (some ⟨g, off, none⟩) s.tries.length cap) := fun j => (hL1.drewN j).setX hx (by decide) _ _ (by rw [hx0]; rfl)
  have hE2 : ∀ j, Blk ((w1.drewN j).setCell ⟨g, off + tr * 7 + 2, none⟩ (.int .i64 i)) w.heap.size 61 #[.int .i64 t, .int .i64 2, .int .u64 ad, .int .u64 wd, .bool false, .int .i64 er] := fun j => (hE1.drewN j).far (p := ⟨g, off + tr * 7 + 2, none⟩) hge.symm _
  have hx2 : tr < (s.tries.set tr ⟨x0.th, x0.first, i, x0.sn, x0.how, x0.rd, x0.wr⟩).length := by simpa using hx
  have hgb := h.geb
  have hth2 : (s.setL (s.tries.set tr ⟨x0.th, x0.first, i, x0.sn, x0.how, x0.rd, x0.wr⟩)).th t = ⟨1, sn, ws, tr⟩ := hth
  have e12 := fun j => ((hE2 j).cell 1).trans (show _ = some (.int .i64 2) from rfl)
  have e42 := fun j => ((hE2 j).cell 4).trans (show _ = some (.bool false) from rfl)
  have x52 := fun j => ((hL2 j).c_x (j := 5) hx2 (by decide)).1.trans (show _ = some (.int .i64 x0.rd) from by simp only [St.setL, List.getElem_set_self, encT]; rfl)
  have f52 := fun j => ((hL2 j).c_x (j := 5) hx2 (by decide)).2
  have hL3 : ∀ j, LookW B (((w1.drewN j).setCell ⟨g, off + tr * 7 + 2, none⟩ (.int .i64 i)).setCell ⟨g, off + tr * 7 + 5, none⟩ (.int .i64 (x0.rd + 1))) b ((s.setL (s.tries.set tr ⟨x0.th, x0.first, i, x0.sn, x0.how, x0.rd, x0.wr⟩)).setL ((s.tries.set tr ⟨x0.th, x0.first, i, x0.sn, x0.how, x0.rd, x0.wr⟩).set tr ⟨x0.th, x0.first, i, x0.sn, x0.how, x0.rd + 1, x0.wr⟩)) n m (.slice (some ⟨g, off, none⟩) s.tries.length cap) := fun j => (hL2 j).setX hx2 (by decide) _ _ (by simp only [St.setL, List.getElem_set_self, encT]; rfl)
  have hE3 : ∀ j, Blk (((w1.drewN j).setCell ⟨g, off + tr * 7 + 2, none⟩ (.int .i64 i)).setCell ⟨g, off + tr * 7 + 5, none⟩ (.int .i64 (x0.rd + 1))) w.heap.size 61 #[.int .i64 t, .int .i64 2, .int .u64 ad, .int .u64 wd, .bool false, .int .i64 er] := fun j => (hE2 j).far (p := ⟨g, off + tr * 7 + 5, none⟩) hge.symm _
  have hth3 : ((s.setL (s.tries.set tr ⟨x0.th, x0.first, i, x0.sn, x0.how, x0.rd, x0.wr⟩)).setL ((s.tries.set tr ⟨x0.th, x0.first, i, x0.sn, x0.how, x0.rd, x0.wr⟩).set tr ⟨x0.th, x0.first, i, x0.sn, x0.how, x0.rd + 1, x0.wr⟩)).th t = ⟨1, sn, ws, tr⟩ := hth
  have c_how3 := fun j => (hL3 j).c_how ht (hth3)
  have c_tb3 := fun j => (hL3 j).c_tb (i := 15) (hw := 1) (k := 2) (a := 2) (by decide) (by decide) rfl (by decide)
  have e13 := fun j => ((hE3 j).cell 1).trans (show _ = some (.int .i64 2) from rfl)
  have fz52t43 := fun j => (hL3 j).fz (52 + t * 4)
  have hrd : (x0.rd : Int) ≤ 1152921504606846976 := by omega
  have hst : Hid (take s i ⟨t, 2, ad, wd, false, er⟩ = ((s.setL (s.tries.set tr ⟨x0.th, x0.first, i, x0.sn, x0.how, x0.rd, x0.wr⟩)).setL ((s.tries.set tr ⟨x0.th, x0.first, i, x0.sn, x0.how, x0.rd, x0.wr⟩).set tr ⟨x0.th, x0.first, i, x0.sn, x0.how, x0.rd + 1, x0.wr⟩)).setT t ⟨1, sn, ws, tr⟩) := Lib.hid (by rw [hup.out]; simp only [St.setT, St.setL, St.setN, St.setH, tkT, updT, tb, List.set_set]; simp)
  have HTH : ((s.setL (s.tries.set tr ⟨x0.th, x0.first, i, x0.sn, x0.how, x0.rd, x0.wr⟩)).setL ((s.tries.set tr ⟨x0.th, x0.first, i, x0.sn, x0.how, x0.rd, x0.wr⟩).set tr ⟨x0.th, x0.first, i, x0.sn, x0.how, x0.rd + 1, x0.wr⟩)).th t = ⟨1, sn, ws, tr⟩ := hth3
  replace HTH := Lib.hid HTH
  replace hL1 := Lib.hid hL1
  replace hL2 := Lib.hid hL2
  replace hL3 := Lib.hid hL3
  replace hth := Lib.hid hth
  replace hx0 := Lib.hid hx0
  replace hmb := Lib.hid hmb
  unfold evV
  dsimp only at *
  clear h hs hn hE1 hE2 hth2 hup hx2 hE3 hth3 hcn
  go_enter Try.func74, Try.ntmps74
  go_wp2
  rw [hW1.out]
  refine wp_region_mixH (fun _ => True) [3, 3, 1, 3, 3, 3, 3] (List.range 7) (by kernel_rfl) (by kernel_rfl) (fun _ _ h => h) trivial ?_; (repeat (first | ((first | refine wpMixH_pure rfl rfl (fun K hK => ?_) | refine wpMixH_loc rfl rfl (fun K hK => ?_) | refine wpMixH_any rfl rfl (fun K hK => ?_)); go_simp; refine hK _ _ ?_; clear hK K) | (refine wpMixH_skip rfl (by go_simp) (fun K hK => ?_); go_simp; refine hK _ _ ?_; clear hK K) | fail)); refine wpMixH_nil (fun n1 => ?_)
  go_wp2
  refine wp_region_mixH (fun _ => True) [3, 3, 3, 1, 3, 3, 3, 1, 3, 3] (List.range 10) (by kernel_rfl) (by kernel_rfl) (fun _ _ h => h) trivial ?_; (repeat (first | ((first | refine wpMixH_pure rfl rfl (fun K hK => ?_) | refine wpMixH_loc rfl rfl (fun K hK => ?_) | refine wpMixH_any rfl rfl (fun K hK => ?_)); go_simp; refine hK _ _ ?_; clear hK K) | (refine wpMixH_skip rfl (by go_simp) (fun K hK => ?_); go_simp; refine hK _ _ ?_; clear hK K) | fail)); refine wpMixH_nil (fun n2 => ?_)
  go_wp2
  clear hrd
  refine wp_region_mixH (fun _ => True) [3, 3, 3, 3, 3, 1, 3, 1, 3, 3, 3, 3, 1, 3, 3, 3, 2] (List.range 17) (by kernel_rfl) (by kernel_rfl) (fun _ _ h => h) trivial ?_
  repeat ((first | refine wpMixH_pure rfl rfl (fun K hK => ?_) | refine wpMixH_loc rfl rfl (fun K hK => ?_) | refine wpMixH_any rfl rfl (fun K hK => ?_)); go_simp; refine hK _ _ ?_; clear hK K)
  refine wpMixH_loud rfl rfl (fun n9 K hK => ?_)
  go_wp2
  refine hK _ _ (fun _ => trivial) ?_; clear hK K
  refine wpMixH_nil (fun n10 => ?_)
  go_wp2
  have hlive : Hid (∀ wf mf nf tvf, LookW B wf b ((s.setL (s.tries.set tr ⟨x0.th, x0.first, i, x0.sn, x0.how, x0.rd, x0.wr⟩)).setL ((s.tries.set tr ⟨x0.th, x0.first, i, x0.sn, x0.how, x0.rd, x0.wr⟩).set tr ⟨x0.th, x0.first, i, x0.sn, x0.how, x0.rd + 1, x0.wr⟩)) nf mf tvf → mf = m → (∃ mb, mf t = some mb ∧ B ≤ mb ∧ Mp wf mb .u64 nf (wfun ws)) ∧ ∀ k, k < 8 → k ≠ t → liveT (((s.setL (s.tries.set tr ⟨x0.th, x0.first, i, x0.sn, x0.how, x0.rd, x0.wr⟩)).setL ((s.tries.set tr ⟨x0.th, x0.first, i, x0.sn, x0.how, x0.rd, x0.wr⟩).set tr ⟨x0.th, x0.first, i, x0.sn, x0.how, x0.rd + 1, x0.wr⟩)).th k) → mf k ≠ mf t) := Lib.hid (fun wf mf nf tvf hf hm => by
    subst hm
    refine ⟨?_, fun k hk hkt hl => hap.out k hk hkt hl⟩
    obtain ⟨mb2, q1, q2, q3⟩ := hf.maps t ht (by unfold liveT; rw [show ((s.setL (s.tries.set tr ⟨x0.th, x0.first, i, x0.sn, x0.how, x0.rd, x0.wr⟩)).setL ((s.tries.set tr ⟨x0.th, x0.first, i, x0.sn, x0.how, x0.rd, x0.wr⟩).set tr ⟨x0.th, x0.first, i, x0.sn, x0.how, x0.rd + 1, x0.wr⟩)).th t = _ from HTH.out]; simp)
    rw [show ((s.setL (s.tries.set tr ⟨x0.th, x0.first, i, x0.sn, x0.how, x0.rd, x0.wr⟩)).setL ((s.tries.set tr ⟨x0.th, x0.first, i, x0.sn, x0.how, x0.rd, x0.wr⟩).set tr ⟨x0.th, x0.first, i, x0.sn, x0.how, x0.rd + 1, x0.wr⟩)).th t = _ from HTH.out] at q3
    exact ⟨mb2, q1, q2, q3⟩)
  refine bodyPost_end (results_none rfl _ _ _) rfl ⟨rfl, ?_, ?_⟩
  · exact below_drewNs ((below_drewNs (((below_drewNs hb1.out _).setCell hgB _).setCell hgB _) _).setCell hgb _) _
  · refine ⟨m, (.slice (some ⟨g, off, none⟩) s.tries.length cap), ?_⟩
    rw [hst.out]
    have FIN : ∀ j jj kk, LookW B ((((((w1.drewN j).setCell ⟨g, off + tr * 7 + 2, none⟩ (.int .i64 i)).setCell ⟨g, off + tr * 7 + 5, none⟩ (.int .i64 (x0.rd + 1))).drewN jj).setCell ⟨b, 52 + t * 4, none⟩ (.int .i64 (1 : Nat))).drewN kk) b (((s.setL (s.tries.set tr ⟨x0.th, x0.first, i, x0.sn, x0.how, x0.rd, x0.wr⟩)).setL ((s.tries.set tr ⟨x0.th, x0.first, i, x0.sn, x0.how, x0.rd, x0.wr⟩).set tr ⟨x0.th, x0.first, i, x0.sn, x0.how, x0.rd + 1, x0.wr⟩)).setT t ⟨1, sn, ws, tr⟩) (n + 1) m (.slice (some ⟨g, off, none⟩) s.tries.length cap) := fun j jj kk => by
      have hfin := (((hL3.out j).drewN jj).setHow ht 1 (fun _ => by have := hlive.out _ _ _ _ ((hL3.out j).drewN jj) rfl; rw [show ((s.setL (s.tries.set tr ⟨x0.th, x0.first, i, x0.sn, x0.how, x0.rd, x0.wr⟩)).setL ((s.tries.set tr ⟨x0.th, x0.first, i, x0.sn, x0.how, x0.rd, x0.wr⟩).set tr ⟨x0.th, x0.first, i, x0.sn, x0.how, x0.rd + 1, x0.wr⟩)).th t = _ from HTH.out]; exact this))
      rw [show ((s.setL (s.tries.set tr ⟨x0.th, x0.first, i, x0.sn, x0.how, x0.rd, x0.wr⟩)).setL ((s.tries.set tr ⟨x0.th, x0.first, i, x0.sn, x0.how, x0.rd, x0.wr⟩).set tr ⟨x0.th, x0.first, i, x0.sn, x0.how, x0.rd + 1, x0.wr⟩)).th t = _ from HTH.out] at hfin
      exact (hfin.drewN kk).mono (Nat.le_succ _)
    exact FIN _ _ _
end
end Go.Proofs.Ytloiadhdkgkjkaa
