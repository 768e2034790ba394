/- (*events.look).take by contract: kind by kind (printed by ev/mktake.py). -/
import Derived.Test.YtloiadhdkgkjkaaEvJ
import Derived.Test.YtloiadhdkgkjkaaMixH
namespace Go.Proofs.Ytloiadhdkgkjkaa
open Go.RowKit
set_option maxHeartbeats 4000000
set_option linter.unusedVariables false
set_option linter.unusedSimpArgs false
section
variable {B b n : Nat} {w : World} {s : St} {m : Nat → Option Nat} {tv : Value}
set_option maxRecDepth 100000 in
theorem take_loaded (h : LookW B w b s n m tv) (hBw : B ≤ w.heap.size) (hs : StBd s n) (hn : n ≤ 1152921504606846976) {t i : Nat} {ad wd er : Int} {ow : Bool} (ht : t < 8) {sn : Int} {ws : List (Int × Int)} {tr : Nat} (hth : s.th t = ⟨0, sn, ws, tr⟩) :
    Calls Try.prog 74 #[.pointer (some ⟨b, 0, none⟩), .int .i64 i, evV ⟨t, 10, ad, wd, ow, er⟩] w fun x w' => x = .returned (.tuple #[]) ∧ Below B w w' ∧ ∃ m' tv', LookW B w' b (take s i ⟨t, 10, ad, wd, ow, er⟩) (n + 1) m' tv' := by
  have hb1 : Hid (Below B w (w.alloc (.cells #[.int .i64 t, .int .i64 10, .int .u64 ad, .int .u64 wd, .bool ow, .int .i64 er] 61))) := Lib.hid ((Below.refl _ w).alloc hBw _)
  have hL1 := h.alloc (.cells #[.int .i64 t, .int .i64 10, .int .u64 ad, .int .u64 wd, .bool ow, .int .i64 er] 61)
  have hE1 := Blk.new w 61 #[.int .i64 t, .int .i64 10, .int .u64 ad, .int .u64 wd, .bool ow, .int .i64 er]
  have hbe : b ≠ w.heap.size := Nat.ne_of_lt h.blk.lt
  generalize hW1 : w.alloc (.cells #[.int .i64 t, .int .i64 10, .int .u64 ad, .int .u64 wd, .bool ow, .int .i64 er] 61) = w1 at *
  replace hW1 := Lib.hid hW1
  have ht' : (t : Int) < 8 := by omega
  have c_how1 := hL1.c_how ht (hth)
  have fz52t41 := hL1.fz (52 + t * 4)
  have c_tb1 := hL1.c_tb (i := 10) (hw := 0) (k := 10) (a := 1) (by decide) (by decide) rfl (by decide)
  have e01 := (hE1.cell 0).trans (show _ = some (.int .i64 t) from rfl)
  have e11 := (hE1.cell 1).trans (show _ = some (.int .i64 10) from rfl)
  have hst : Hid (take s i ⟨t, 10, ad, wd, ow, er⟩ = s.setT t ⟨0, (s.th t).sn, (s.th t).ws, (s.th t).tr⟩) := Lib.hid (by unfold take tkT St.setT; simp [hth, tb])
  replace hL1 := Lib.hid hL1
  replace hth := Lib.hid hth
  unfold evV
  dsimp only at *
  have hgb := h.geb
  clear h hs hn hE1
  go_enter Try.func74, Try.ntmps74
  go_wp2
  rw [hW1.out]
  refine wp_region_mixH (fun _ => True) [3, 3, 1, 3, 3, 3, 3] (List.range 7) (by kernel_rfl) (by kernel_rfl) (fun _ _ h => h) trivial ?_; (repeat (first | ((first | refine wpMixH_pure rfl rfl (fun K hK => ?_) | refine wpMixH_loc rfl rfl (fun K hK => ?_) | refine wpMixH_any rfl rfl (fun K hK => ?_)); go_simp; refine hK _ _ ?_; clear hK K) | (refine wpMixH_skip rfl (by go_simp) (fun K hK => ?_); go_simp; refine hK _ _ ?_; clear hK K) | fail)); refine wpMixH_nil (fun n1 => ?_)
  go_wp2
  refine wp_region_mixH (fun _ => True) [3, 3, 3, 3, 3, 1, 3, 1, 3, 3, 3, 3, 1, 3, 3, 3, 2] (List.range 17) (by kernel_rfl) (by kernel_rfl) (fun _ _ h => h) trivial ?_
  repeat ((first | refine wpMixH_pure rfl rfl (fun K hK => ?_) | refine wpMixH_loc rfl rfl (fun K hK => ?_) | refine wpMixH_any rfl rfl (fun K hK => ?_)); go_simp; refine hK _ _ ?_; clear hK K)
  refine wpMixH_loud rfl rfl (fun n9 K hK => ?_)
  go_wp2
  refine hK _ _ (fun _ => trivial) ?_; clear hK K
  refine wpMixH_nil (fun n10 => ?_)
  go_wp2
  refine bodyPost_end (results_none rfl _ _ _) rfl ⟨rfl, ?_, ?_⟩
  · exact below_drewNs ((below_drewNs hb1.out _).setCell hgb _) _
  · refine ⟨m, tv, ?_⟩
    rw [hst.out]
    exact (((hL1.out.drewN _).setHow ht 0 (fun h => absurd h (by decide))).drewN _).mono (Nat.le_succ _)
set_option maxRecDepth 100000 in
theorem take_stored (h : LookW B w b s n m tv) (hBw : B ≤ w.heap.size) (hs : StBd s n) (hn : n ≤ 1152921504606846976) {t i : Nat} {ad wd er : Int} {ow : Bool} (ht : t < 8) {sn : Int} {ws : List (Int × Int)} {tr : Nat} (hth : s.th t = ⟨0, sn, ws, tr⟩) :
    Calls Try.prog 74 #[.pointer (some ⟨b, 0, none⟩), .int .i64 i, evV ⟨t, 11, ad, wd, ow, er⟩] w fun x w' => x = .returned (.tuple #[]) ∧ Below B w w' ∧ ∃ m' tv', LookW B w' b (take s i ⟨t, 11, ad, wd, ow, er⟩) (n + 1) m' tv' := by
  have hb1 : Hid (Below B w (w.alloc (.cells #[.int .i64 t, .int .i64 11, .int .u64 ad, .int .u64 wd, .bool ow, .int .i64 er] 61))) := Lib.hid ((Below.refl _ w).alloc hBw _)
  have hL1 := h.alloc (.cells #[.int .i64 t, .int .i64 11, .int .u64 ad, .int .u64 wd, .bool ow, .int .i64 er] 61)
  have hE1 := Blk.new w 61 #[.int .i64 t, .int .i64 11, .int .u64 ad, .int .u64 wd, .bool ow, .int .i64 er]
  have hbe : b ≠ w.heap.size := Nat.ne_of_lt h.blk.lt
  generalize hW1 : w.alloc (.cells #[.int .i64 t, .int .i64 11, .int .u64 ad, .int .u64 wd, .bool ow, .int .i64 er] 61) = w1 at *
  replace hW1 := Lib.hid hW1
  have ht' : (t : Int) < 8 := by omega
  have c_how1 := hL1.c_how ht (hth)
  have fz52t41 := hL1.fz (52 + t * 4)
  have c_tb1 := hL1.c_tb (i := 11) (hw := 0) (k := 11) (a := 1) (by decide) (by decide) rfl (by decide)
  have e01 := (hE1.cell 0).trans (show _ = some (.int .i64 t) from rfl)
  have e11 := (hE1.cell 1).trans (show _ = some (.int .i64 11) from rfl)
  have hst : Hid (take s i ⟨t, 11, ad, wd, ow, er⟩ = s.setT t ⟨0, (s.th t).sn, (s.th t).ws, (s.th t).tr⟩) := Lib.hid (by unfold take tkT St.setT; simp [hth, tb])
  replace hL1 := Lib.hid hL1
  replace hth := Lib.hid hth
  unfold evV
  dsimp only at *
  have hgb := h.geb
  clear h hs hn hE1
  go_enter Try.func74, Try.ntmps74
  go_wp2
  rw [hW1.out]
  refine wp_region_mixH (fun _ => True) [3, 3, 1, 3, 3, 3, 3] (List.range 7) (by kernel_rfl) (by kernel_rfl) (fun _ _ h => h) trivial ?_; (repeat (first | ((first | refine wpMixH_pure rfl rfl (fun K hK => ?_) | refine wpMixH_loc rfl rfl (fun K hK => ?_) | refine wpMixH_any rfl rfl (fun K hK => ?_)); go_simp; refine hK _ _ ?_; clear hK K) | (refine wpMixH_skip rfl (by go_simp) (fun K hK => ?_); go_simp; refine hK _ _ ?_; clear hK K) | fail)); refine wpMixH_nil (fun n1 => ?_)
  go_wp2
  refine wp_region_mixH (fun _ => True) [3, 3, 3, 3, 3, 1, 3, 1, 3, 3, 3, 3, 1, 3, 3, 3, 2] (List.range 17) (by kernel_rfl) (by kernel_rfl) (fun _ _ h => h) trivial ?_
  repeat ((first | refine wpMixH_pure rfl rfl (fun K hK => ?_) | refine wpMixH_loc rfl rfl (fun K hK => ?_) | refine wpMixH_any rfl rfl (fun K hK => ?_)); go_simp; refine hK _ _ ?_; clear hK K)
  refine wpMixH_loud rfl rfl (fun n9 K hK => ?_)
  go_wp2
  refine hK _ _ (fun _ => trivial) ?_; clear hK K
  refine wpMixH_nil (fun n10 => ?_)
  go_wp2
  refine bodyPost_end (results_none rfl _ _ _) rfl ⟨rfl, ?_, ?_⟩
  · exact below_drewNs ((below_drewNs hb1.out _).setCell hgb _) _
  · refine ⟨m, tv, ?_⟩
    rw [hst.out]
    exact (((hL1.out.drewN _).setHow ht 0 (fun h => absurd h (by decide))).drewN _).mono (Nat.le_succ _)
set_option maxRecDepth 100000 in
theorem take_halted (h : LookW B w b s n m tv) (hBw : B ≤ w.heap.size) (hs : StBd s n) (hn : n ≤ 1152921504606846976) {t i : Nat} {ad wd er : Int} {ow : Bool} (ht : t < 8) {sn : Int} {ws : List (Int × Int)} {tr : Nat} (hth : s.th t = ⟨0, sn, ws, tr⟩) :
    Calls Try.prog 74 #[.pointer (some ⟨b, 0, none⟩), .int .i64 i, evV ⟨t, 12, ad, wd, ow, er⟩] w fun x w' => x = .returned (.tuple #[]) ∧ Below B w w' ∧ ∃ m' tv', LookW B w' b (take s i ⟨t, 12, ad, wd, ow, er⟩) (n + 1) m' tv' := by
  have hb1 : Hid (Below B w (w.alloc (.cells #[.int .i64 t, .int .i64 12, .int .u64 ad, .int .u64 wd, .bool ow, .int .i64 er] 61))) := Lib.hid ((Below.refl _ w).alloc hBw _)
  have hL1 := h.alloc (.cells #[.int .i64 t, .int .i64 12, .int .u64 ad, .int .u64 wd, .bool ow, .int .i64 er] 61)
  have hE1 := Blk.new w 61 #[.int .i64 t, .int .i64 12, .int .u64 ad, .int .u64 wd, .bool ow, .int .i64 er]
  have hbe : b ≠ w.heap.size := Nat.ne_of_lt h.blk.lt
  generalize hW1 : w.alloc (.cells #[.int .i64 t, .int .i64 12, .int .u64 ad, .int .u64 wd, .bool ow, .int .i64 er] 61) = w1 at *
  replace hW1 := Lib.hid hW1
  have ht' : (t : Int) < 8 := by omega
  have c_how1 := hL1.c_how ht (hth)
  have fz52t41 := hL1.fz (52 + t * 4)
  have c_tb1 := hL1.c_tb (i := 12) (hw := 0) (k := 12) (a := 4) (by decide) (by decide) rfl (by decide)
  have e01 := (hE1.cell 0).trans (show _ = some (.int .i64 t) from rfl)
  have e11 := (hE1.cell 1).trans (show _ = some (.int .i64 12) from rfl)
  have hst : Hid (take s i ⟨t, 12, ad, wd, ow, er⟩ = s.setT t ⟨3, (s.th t).sn, (s.th t).ws, (s.th t).tr⟩) := Lib.hid (by unfold take tkT St.setT; simp [hth, tb])
  replace hL1 := Lib.hid hL1
  replace hth := Lib.hid hth
  unfold evV
  dsimp only at *
  have hgb := h.geb
  clear h hs hn hE1
  go_enter Try.func74, Try.ntmps74
  go_wp2
  rw [hW1.out]
  refine wp_region_mixH (fun _ => True) [3, 3, 1, 3, 3, 3, 3] (List.range 7) (by kernel_rfl) (by kernel_rfl) (fun _ _ h => h) trivial ?_; (repeat (first | ((first | refine wpMixH_pure rfl rfl (fun K hK => ?_) | refine wpMixH_loc rfl rfl (fun K hK => ?_) | refine wpMixH_any rfl rfl (fun K hK => ?_)); go_simp; refine hK _ _ ?_; clear hK K) | (refine wpMixH_skip rfl (by go_simp) (fun K hK => ?_); go_simp; refine hK _ _ ?_; clear hK K) | fail)); refine wpMixH_nil (fun n1 => ?_)
  go_wp2
  refine wp_region_mixH (fun _ => True) [3, 3, 3, 3, 3, 1, 3, 1, 3, 3, 3, 3, 1, 3, 3, 3, 2] (List.range 17) (by kernel_rfl) (by kernel_rfl) (fun _ _ h => h) trivial ?_
  repeat ((first | refine wpMixH_pure rfl rfl (fun K hK => ?_) | refine wpMixH_loc rfl rfl (fun K hK => ?_) | refine wpMixH_any rfl rfl (fun K hK => ?_)); go_simp; refine hK _ _ ?_; clear hK K)
  refine wpMixH_loud rfl rfl (fun n9 K hK => ?_)
  go_wp2
  refine hK _ _ (fun _ => trivial) ?_; clear hK K
  refine wpMixH_nil (fun n10 => ?_)
  go_wp2
  refine bodyPost_end (results_none rfl _ _ _) rfl ⟨rfl, ?_, ?_⟩
  · exact below_drewNs ((below_drewNs hb1.out _).setCell hgb _) _
  · refine ⟨m, tv, ?_⟩
    rw [hst.out]
    exact (((hL1.out.drewN _).setHow ht 3 (fun h => absurd h (by decide))).drewN _).mono (Nat.le_succ _)
set_option maxRecDepth 100000 in
theorem take_fail0 (h : LookW B w b s n m tv) (hBw : B ≤ w.heap.size) (hs : StBd s n) (hn : n ≤ 1152921504606846976) {t i : Nat} {ad wd er : Int} {ow : Bool} (ht : t < 8) {sn : Int} {ws : List (Int × Int)} {tr : Nat} (hth : s.th t = ⟨0, sn, ws, tr⟩) :
    Calls Try.prog 74 #[.pointer (some ⟨b, 0, none⟩), .int .i64 i, evV ⟨t, 9, ad, wd, ow, er⟩] w fun x w' => x = .returned (.tuple #[]) ∧ Below B w w' ∧ ∃ m' tv', LookW B w' b (take s i ⟨t, 9, ad, wd, ow, er⟩) (n + 1) m' tv' := by
  have hb1 : Hid (Below B w (w.alloc (.cells #[.int .i64 t, .int .i64 9, .int .u64 ad, .int .u64 wd, .bool ow, .int .i64 er] 61))) := Lib.hid ((Below.refl _ w).alloc hBw _)
  have hL1 := h.alloc (.cells #[.int .i64 t, .int .i64 9, .int .u64 ad, .int .u64 wd, .bool ow, .int .i64 er] 61)
  have hE1 := Blk.new w 61 #[.int .i64 t, .int .i64 9, .int .u64 ad, .int .u64 wd, .bool ow, .int .i64 er]
  have hbe : b ≠ w.heap.size := Nat.ne_of_lt h.blk.lt
  generalize hW1 : w.alloc (.cells #[.int .i64 t, .int .i64 9, .int .u64 ad, .int .u64 wd, .bool ow, .int .i64 er] 61) = w1 at *
  replace hW1 := Lib.hid hW1
  have ht' : (t : Int) < 8 := by omega
  have c_how1 := hL1.c_how ht (hth)
  have fz52t41 := hL1.fz (52 + t * 4)
  have c_tb1 := hL1.c_tb (i := 9) (hw := 0) (k := 9) (a := 4) (by decide) (by decide) rfl (by decide)
  have e01 := (hE1.cell 0).trans (show _ = some (.int .i64 t) from rfl)
  have e11 := (hE1.cell 1).trans (show _ = some (.int .i64 9) from rfl)
  have hst : Hid (take s i ⟨t, 9, ad, wd, ow, er⟩ = s.setT t ⟨3, (s.th t).sn, (s.th t).ws, (s.th t).tr⟩) := Lib.hid (by unfold take tkT St.setT; simp [hth, tb])
  replace hL1 := Lib.hid hL1
  replace hth := Lib.hid hth
  unfold evV
  dsimp only at *
  have hgb := h.geb
  clear h hs hn hE1
  go_enter Try.func74, Try.ntmps74
  go_wp2
  rw [hW1.out]
  refine wp_region_mixH (fun _ => True) [3, 3, 1, 3, 3, 3, 3] (List.range 7) (by kernel_rfl) (by kernel_rfl) (fun _ _ h => h) trivial ?_; (repeat (first | ((first | refine wpMixH_pure rfl rfl (fun K hK => ?_) | refine wpMixH_loc rfl rfl (fun K hK => ?_) | refine wpMixH_any rfl rfl (fun K hK => ?_)); go_simp; refine hK _ _ ?_; clear hK K) | (refine wpMixH_skip rfl (by go_simp) (fun K hK => ?_); go_simp; refine hK _ _ ?_; clear hK K) | fail)); refine wpMixH_nil (fun n1 => ?_)
  go_wp2
  refine wp_region_mixH (fun _ => True) [3, 3, 3, 3, 3, 1, 3, 1, 3, 3, 3, 3, 1, 3, 3, 3, 2] (List.range 17) (by kernel_rfl) (by kernel_rfl) (fun _ _ h => h) trivial ?_
  repeat ((first | refine wpMixH_pure rfl rfl (fun K hK => ?_) | refine wpMixH_loc rfl rfl (fun K hK => ?_) | refine wpMixH_any rfl rfl (fun K hK => ?_)); go_simp; refine hK _ _ ?_; clear hK K)
  refine wpMixH_loud rfl rfl (fun n9 K hK => ?_)
  go_wp2
  refine hK _ _ (fun _ => trivial) ?_; clear hK K
  refine wpMixH_nil (fun n10 => ?_)
  go_wp2
  refine bodyPost_end (results_none rfl _ _ _) rfl ⟨rfl, ?_, ?_⟩
  · exact below_drewNs ((below_drewNs hb1.out _).setCell hgb _) _
  · refine ⟨m, tv, ?_⟩
    rw [hst.out]
    exact (((hL1.out.drewN _).setHow ht 3 (fun h => absurd h (by decide))).drewN _).mono (Nat.le_succ _)
end
end Go.Proofs.Ytloiadhdkgkjkaa
