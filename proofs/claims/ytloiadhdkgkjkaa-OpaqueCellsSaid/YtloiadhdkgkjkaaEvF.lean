/- (*events.look).wrong by contract: kind by kind (printed by ev/mkwrong.py). -/
import Derived.Test.YtloiadhdkgkjkaaEvD
namespace Go.Proofs.Ytloiadhdkgkjkaa
open Go.RowKit
set_option maxHeartbeats 4000000
set_option linter.unusedVariables false
set_option linter.unusedSimpArgs false
section
variable {B b n : Nat} {w : World} {s : St} {m : Nat → Option Nat} {tv : Value}
set_option maxRecDepth 100000 in
theorem wrong_write (h : LookW B w b s n m tv) (hs : StBd s n) (hn : n ≤ 1152921504606846976) {t : Nat} {ad wd er : Int} {ow : Bool} (ht : t < 8) (hhow : (s.th t).how = 1) (he : EvWf ⟨t, 3, ad, wd, ow, er⟩) (hf : fmd ⟨t, 3, ad, wd, ow, er⟩ = true) :
    Calls Try.prog 73 #[.pointer (some ⟨b, 0, none⟩), evV ⟨t, 3, ad, wd, ow, er⟩] w fun x w' => x = .returned (.int .i64 (wrong s ⟨t, 3, ad, wd, ow, er⟩)) ∧ Below w.heap.size w w' := by
  have HW : Hid (wrong s ⟨t, 3, ad, wd, ow, er⟩ = 0) := Lib.hid (by
    unfold wrong wrg
    dsimp only
    rw [hf, Int.toNat_natCast, hhow]
    simp [tb, lockK, wordOk, ownOk, hhow])
  have C1 := Lib.hid (fun W => formed_b ⟨t, 3, ad, wd, ow, er⟩ W he.2.2.2.1.1 he.2.2.2.1.2)
  rw [hf] at C1
  have hb1 := Lib.hid ((Below.refl w.heap.size w).alloc (Nat.le_refl _) (.cells #[.int .i64 t, .int .i64 3, .int .u64 ad, .int .u64 wd, .bool ow, .int .i64 er] 61))
  have hB := Lib.hid (h.blk.alloc (.cells #[.int .i64 t, .int .i64 3, .int .u64 ad, .int .u64 wd, .bool ow, .int .i64 er] 61))
  have hE := Lib.hid (Blk.new w 61 #[.int .i64 t, .int .i64 3, .int .u64 ad, .int .u64 wd, .bool ow, .int .i64 er])
  have g0 := gL_tb (s := s) (m := m) (tv := tv) (h := 1) (k := 3) (by decide) (by decide)
  have g1 := gL_how (s := s) (m := m) (tv := tv) ht
  rw [hhow] at g1
  rw [show tb 1 ((3 : Nat) : Int) = 2 from by decide] at g0
  unfold evV at *
  dsimp only at *
  clear hf he
  clear hn
  go_enter Try.func73, Try.ntmps73
  go_wp2_with fail
  refine (C1.out _).mono ?_
  rintro _ w2 ⟨rfl, hb2⟩
  have hB2 := hB.out.below hb2 hB.out.lt
  have hE2 := hE.out.below hb2 hE.out.lt
  have hb3 := Lib.hid (hb1.out.trans (hb2.mono (by simp)))
  have c0 := (hB2.fcell (i := 52 + t * 4) (by omega)).trans (congrArg some g1)
  have c1 := (hB2.fcell (i := 16) (by omega)).trans (congrArg some g0)
  have e0 := hE2.cell 0
  have e1 := hE2.cell 1
  have e2 := hE2.cell 2
  have e3 := hE2.cell 3
  have e4 := hE2.cell 4
  have e5 := hE2.cell 5
  simp only [List.getElem?_toArray, List.getElem?_cons_zero, List.getElem?_cons_succ] at e0 e1 e2 e3 e4 e5
  have ht' : (t : Int) < 8 := by omega
  clear hb2 hB2 hE2 hB hE g0 g1 hb1 h hs hhow
  go_wp2
  refine wp_region_mixH (fun _ => True) [3, 3, 1, 3, 3, 3, 3] (List.range 7) (by kernel_rfl) (by kernel_rfl) (fun _ _ h => h) trivial ?_; (repeat (first | ((first | refine wpMixH_pure rfl rfl (fun K hK => ?_) | refine wpMixH_loc rfl rfl (fun K hK => ?_) | refine wpMixH_any rfl rfl (fun K hK => ?_)); go_simp; refine hK _ _ ?_; clear hK K) | (refine wpMixH_skip rfl (by go_simp) (fun K hK => ?_); go_simp; refine hK _ _ ?_; clear hK K) | fail)); refine wpMixH_nil (fun n1 => ?_)
  go_wp2
  refine wp_region_mixH (fun _ => True) [3, 3, 3, 3, 1, 3, 1, 3, 3, 3, 3, 1, 3, 3, 3, 3, 3, 1, 3, 3, 3, 1, 3, 3, 3, 3, 1, 3, 3, 3] (List.range 30) (by kernel_rfl) (by kernel_rfl) (fun _ _ h => h) trivial ?_; (repeat (first | ((first | refine wpMixH_pure rfl rfl (fun K hK => ?_) | refine wpMixH_loc rfl rfl (fun K hK => ?_) | refine wpMixH_any rfl rfl (fun K hK => ?_)); go_simp; refine hK _ _ ?_; clear hK K) | (refine wpMixH_skip rfl (by go_simp) (fun K hK => ?_); go_simp; refine hK _ _ ?_; clear hK K) | fail)); refine wpMixH_nil (fun n2 => ?_)
  go_wp2
  all_goals
    go_ret
    exact ⟨ret_int HW.out.symm, (by first | exact below_drewNs hb3.out _ | exact below_drewNs (below_drewNs hb3.out _) _)⟩
set_option maxRecDepth 100000 in
theorem wrong_stale (h : LookW B w b s n m tv) (hs : StBd s n) (hn : n ≤ 1152921504606846976) {t : Nat} {ad wd er : Int} {ow : Bool} (ht : t < 8) (hhow : (s.th t).how = 1) (he : EvWf ⟨t, 7, ad, wd, ow, er⟩) (hf : fmd ⟨t, 7, ad, wd, ow, er⟩ = true) :
    Calls Try.prog 73 #[.pointer (some ⟨b, 0, none⟩), evV ⟨t, 7, ad, wd, ow, er⟩] w fun x w' => x = .returned (.int .i64 (wrong s ⟨t, 7, ad, wd, ow, er⟩)) ∧ Below w.heap.size w w' := by
  have HW : Hid (wrong s ⟨t, 7, ad, wd, ow, er⟩ = 0) := Lib.hid (by
    unfold wrong wrg
    dsimp only
    rw [hf, Int.toNat_natCast, hhow]
    simp [tb, lockK, wordOk, ownOk, hhow])
  have C1 := Lib.hid (fun W => formed_b ⟨t, 7, ad, wd, ow, er⟩ W he.2.2.2.1.1 he.2.2.2.1.2)
  rw [hf] at C1
  have hb1 := Lib.hid ((Below.refl w.heap.size w).alloc (Nat.le_refl _) (.cells #[.int .i64 t, .int .i64 7, .int .u64 ad, .int .u64 wd, .bool ow, .int .i64 er] 61))
  have hB := Lib.hid (h.blk.alloc (.cells #[.int .i64 t, .int .i64 7, .int .u64 ad, .int .u64 wd, .bool ow, .int .i64 er] 61))
  have hE := Lib.hid (Blk.new w 61 #[.int .i64 t, .int .i64 7, .int .u64 ad, .int .u64 wd, .bool ow, .int .i64 er])
  have g0 := gL_tb (s := s) (m := m) (tv := tv) (h := 1) (k := 7) (by decide) (by decide)
  have g1 := gL_how (s := s) (m := m) (tv := tv) ht
  rw [hhow] at g1
  rw [show tb 1 ((7 : Nat) : Int) = 1 from by decide] at g0
  unfold evV at *
  dsimp only at *
  clear hf he
  clear hn
  go_enter Try.func73, Try.ntmps73
  go_wp2_with fail
  refine (C1.out _).mono ?_
  rintro _ w2 ⟨rfl, hb2⟩
  have hB2 := hB.out.below hb2 hB.out.lt
  have hE2 := hE.out.below hb2 hE.out.lt
  have hb3 := Lib.hid (hb1.out.trans (hb2.mono (by simp)))
  have c0 := (hB2.fcell (i := 52 + t * 4) (by omega)).trans (congrArg some g1)
  have c1 := (hB2.fcell (i := 20) (by omega)).trans (congrArg some g0)
  have e0 := hE2.cell 0
  have e1 := hE2.cell 1
  have e2 := hE2.cell 2
  have e3 := hE2.cell 3
  have e4 := hE2.cell 4
  have e5 := hE2.cell 5
  simp only [List.getElem?_toArray, List.getElem?_cons_zero, List.getElem?_cons_succ] at e0 e1 e2 e3 e4 e5
  have ht' : (t : Int) < 8 := by omega
  clear hb2 hB2 hE2 hB hE g0 g1 hb1 h hs hhow
  go_wp2
  refine wp_region_mixH (fun _ => True) [3, 3, 1, 3, 3, 3, 3] (List.range 7) (by kernel_rfl) (by kernel_rfl) (fun _ _ h => h) trivial ?_; (repeat (first | ((first | refine wpMixH_pure rfl rfl (fun K hK => ?_) | refine wpMixH_loc rfl rfl (fun K hK => ?_) | refine wpMixH_any rfl rfl (fun K hK => ?_)); go_simp; refine hK _ _ ?_; clear hK K) | (refine wpMixH_skip rfl (by go_simp) (fun K hK => ?_); go_simp; refine hK _ _ ?_; clear hK K) | fail)); refine wpMixH_nil (fun n1 => ?_)
  go_wp2
  refine wp_region_mixH (fun _ => True) [3, 3, 3, 3, 1, 3, 1, 3, 3, 3, 3, 1, 3, 3, 3, 3, 3, 1, 3, 3, 3, 1, 3, 3, 3, 3, 1, 3, 3, 3] (List.range 30) (by kernel_rfl) (by kernel_rfl) (fun _ _ h => h) trivial ?_; (repeat (first | ((first | refine wpMixH_pure rfl rfl (fun K hK => ?_) | refine wpMixH_loc rfl rfl (fun K hK => ?_) | refine wpMixH_any rfl rfl (fun K hK => ?_)); go_simp; refine hK _ _ ?_; clear hK K) | (refine wpMixH_skip rfl (by go_simp) (fun K hK => ?_); go_simp; refine hK _ _ ?_; clear hK K) | fail)); refine wpMixH_nil (fun n2 => ?_)
  go_wp2
  all_goals
    go_ret
    exact ⟨ret_int HW.out.symm, (by first | exact below_drewNs hb3.out _ | exact below_drewNs (below_drewNs hb3.out _) _)⟩
set_option maxRecDepth 100000 in
theorem wrong_abort (h : LookW B w b s n m tv) (hs : StBd s n) (hn : n ≤ 1152921504606846976) {t : Nat} {ad wd er : Int} {ow : Bool} (ht : t < 8) (hhow : (s.th t).how = 1) (he : EvWf ⟨t, 8, ad, wd, ow, er⟩) (hf : fmd ⟨t, 8, ad, wd, ow, er⟩ = true) :
    Calls Try.prog 73 #[.pointer (some ⟨b, 0, none⟩), evV ⟨t, 8, ad, wd, ow, er⟩] w fun x w' => x = .returned (.int .i64 (wrong s ⟨t, 8, ad, wd, ow, er⟩)) ∧ Below w.heap.size w w' := by
  have HW : Hid (wrong s ⟨t, 8, ad, wd, ow, er⟩ = 0) := Lib.hid (by
    unfold wrong wrg
    dsimp only
    rw [hf, Int.toNat_natCast, hhow]
    simp [tb, lockK, wordOk, ownOk, hhow])
  have C1 := Lib.hid (fun W => formed_b ⟨t, 8, ad, wd, ow, er⟩ W he.2.2.2.1.1 he.2.2.2.1.2)
  rw [hf] at C1
  have hb1 := Lib.hid ((Below.refl w.heap.size w).alloc (Nat.le_refl _) (.cells #[.int .i64 t, .int .i64 8, .int .u64 ad, .int .u64 wd, .bool ow, .int .i64 er] 61))
  have hB := Lib.hid (h.blk.alloc (.cells #[.int .i64 t, .int .i64 8, .int .u64 ad, .int .u64 wd, .bool ow, .int .i64 er] 61))
  have hE := Lib.hid (Blk.new w 61 #[.int .i64 t, .int .i64 8, .int .u64 ad, .int .u64 wd, .bool ow, .int .i64 er])
  have g0 := gL_tb (s := s) (m := m) (tv := tv) (h := 1) (k := 8) (by decide) (by decide)
  have g1 := gL_how (s := s) (m := m) (tv := tv) ht
  rw [hhow] at g1
  rw [show tb 1 ((8 : Nat) : Int) = 1 from by decide] at g0
  unfold evV at *
  dsimp only at *
  clear hf he
  clear hn
  go_enter Try.func73, Try.ntmps73
  go_wp2_with fail
  refine (C1.out _).mono ?_
  rintro _ w2 ⟨rfl, hb2⟩
  have hB2 := hB.out.below hb2 hB.out.lt
  have hE2 := hE.out.below hb2 hE.out.lt
  have hb3 := Lib.hid (hb1.out.trans (hb2.mono (by simp)))
  have c0 := (hB2.fcell (i := 52 + t * 4) (by omega)).trans (congrArg some g1)
  have c1 := (hB2.fcell (i := 21) (by omega)).trans (congrArg some g0)
  have e0 := hE2.cell 0
  have e1 := hE2.cell 1
  have e2 := hE2.cell 2
  have e3 := hE2.cell 3
  have e4 := hE2.cell 4
  have e5 := hE2.cell 5
  simp only [List.getElem?_toArray, List.getElem?_cons_zero, List.getElem?_cons_succ] at e0 e1 e2 e3 e4 e5
  have ht' : (t : Int) < 8 := by omega
  clear hb2 hB2 hE2 hB hE g0 g1 hb1 h hs hhow
  go_wp2
  refine wp_region_mixH (fun _ => True) [3, 3, 1, 3, 3, 3, 3] (List.range 7) (by kernel_rfl) (by kernel_rfl) (fun _ _ h => h) trivial ?_; (repeat (first | ((first | refine wpMixH_pure rfl rfl (fun K hK => ?_) | refine wpMixH_loc rfl rfl (fun K hK => ?_) | refine wpMixH_any rfl rfl (fun K hK => ?_)); go_simp; refine hK _ _ ?_; clear hK K) | (refine wpMixH_skip rfl (by go_simp) (fun K hK => ?_); go_simp; refine hK _ _ ?_; clear hK K) | fail)); refine wpMixH_nil (fun n1 => ?_)
  go_wp2
  refine wp_region_mixH (fun _ => True) [3, 3, 3, 3, 1, 3, 1, 3, 3, 3, 3, 1, 3, 3, 3, 3, 3, 1, 3, 3, 3, 1, 3, 3, 3, 3, 1, 3, 3, 3] (List.range 30) (by kernel_rfl) (by kernel_rfl) (fun _ _ h => h) trivial ?_; (repeat (first | ((first | refine wpMixH_pure rfl rfl (fun K hK => ?_) | refine wpMixH_loc rfl rfl (fun K hK => ?_) | refine wpMixH_any rfl rfl (fun K hK => ?_)); go_simp; refine hK _ _ ?_; clear hK K) | (refine wpMixH_skip rfl (by go_simp) (fun K hK => ?_); go_simp; refine hK _ _ ?_; clear hK K) | fail)); refine wpMixH_nil (fun n2 => ?_)
  go_wp2
  all_goals
    go_ret
    exact ⟨ret_int HW.out.symm, (by first | exact below_drewNs hb3.out _ | exact below_drewNs (below_drewNs hb3.out _) _)⟩
set_option maxRecDepth 100000 in
theorem wrong_fail1 (h : LookW B w b s n m tv) (hs : StBd s n) (hn : n ≤ 1152921504606846976) {t : Nat} {ad wd er : Int} {ow : Bool} (ht : t < 8) (hhow : (s.th t).how = 1) (he : EvWf ⟨t, 9, ad, wd, ow, er⟩) (hf : fmd ⟨t, 9, ad, wd, ow, er⟩ = true) :
    Calls Try.prog 73 #[.pointer (some ⟨b, 0, none⟩), evV ⟨t, 9, ad, wd, ow, er⟩] w fun x w' => x = .returned (.int .i64 (wrong s ⟨t, 9, ad, wd, ow, er⟩)) ∧ Below w.heap.size w w' := by
  have HW : Hid (wrong s ⟨t, 9, ad, wd, ow, er⟩ = 0) := Lib.hid (by
    unfold wrong wrg
    dsimp only
    rw [hf, Int.toNat_natCast, hhow]
    simp [tb, lockK, wordOk, ownOk, hhow])
  have C1 := Lib.hid (fun W => formed_b ⟨t, 9, ad, wd, ow, er⟩ W he.2.2.2.1.1 he.2.2.2.1.2)
  rw [hf] at C1
  have hb1 := Lib.hid ((Below.refl w.heap.size w).alloc (Nat.le_refl _) (.cells #[.int .i64 t, .int .i64 9, .int .u64 ad, .int .u64 wd, .bool ow, .int .i64 er] 61))
  have hB := Lib.hid (h.blk.alloc (.cells #[.int .i64 t, .int .i64 9, .int .u64 ad, .int .u64 wd, .bool ow, .int .i64 er] 61))
  have hE := Lib.hid (Blk.new w 61 #[.int .i64 t, .int .i64 9, .int .u64 ad, .int .u64 wd, .bool ow, .int .i64 er])
  have g0 := gL_tb (s := s) (m := m) (tv := tv) (h := 1) (k := 9) (by decide) (by decide)
  have g1 := gL_how (s := s) (m := m) (tv := tv) ht
  rw [hhow] at g1
  rw [show tb 1 ((9 : Nat) : Int) = 4 from by decide] at g0
  unfold evV at *
  dsimp only at *
  clear hf he
  clear hn
  go_enter Try.func73, Try.ntmps73
  go_wp2_with fail
  refine (C1.out _).mono ?_
  rintro _ w2 ⟨rfl, hb2⟩
  have hB2 := hB.out.below hb2 hB.out.lt
  have hE2 := hE.out.below hb2 hE.out.lt
  have hb3 := Lib.hid (hb1.out.trans (hb2.mono (by simp)))
  have c0 := (hB2.fcell (i := 52 + t * 4) (by omega)).trans (congrArg some g1)
  have c1 := (hB2.fcell (i := 22) (by omega)).trans (congrArg some g0)
  have e0 := hE2.cell 0
  have e1 := hE2.cell 1
  have e2 := hE2.cell 2
  have e3 := hE2.cell 3
  have e4 := hE2.cell 4
  have e5 := hE2.cell 5
  simp only [List.getElem?_toArray, List.getElem?_cons_zero, List.getElem?_cons_succ] at e0 e1 e2 e3 e4 e5
  have ht' : (t : Int) < 8 := by omega
  clear hb2 hB2 hE2 hB hE g0 g1 hb1 h hs hhow
  go_wp2
  refine wp_region_mixH (fun _ => True) [3, 3, 1, 3, 3, 3, 3] (List.range 7) (by kernel_rfl) (by kernel_rfl) (fun _ _ h => h) trivial ?_; (repeat (first | ((first | refine wpMixH_pure rfl rfl (fun K hK => ?_) | refine wpMixH_loc rfl rfl (fun K hK => ?_) | refine wpMixH_any rfl rfl (fun K hK => ?_)); go_simp; refine hK _ _ ?_; clear hK K) | (refine wpMixH_skip rfl (by go_simp) (fun K hK => ?_); go_simp; refine hK _ _ ?_; clear hK K) | fail)); refine wpMixH_nil (fun n1 => ?_)
  go_wp2
  refine wp_region_mixH (fun _ => True) [3, 3, 3, 3, 1, 3, 1, 3, 3, 3, 3, 1, 3, 3, 3, 3, 3, 1, 3, 3, 3, 1, 3, 3, 3, 3, 1, 3, 3, 3] (List.range 30) (by kernel_rfl) (by kernel_rfl) (fun _ _ h => h) trivial ?_; (repeat (first | ((first | refine wpMixH_pure rfl rfl (fun K hK => ?_) | refine wpMixH_loc rfl rfl (fun K hK => ?_) | refine wpMixH_any rfl rfl (fun K hK => ?_)); go_simp; refine hK _ _ ?_; clear hK K) | (refine wpMixH_skip rfl (by go_simp) (fun K hK => ?_); go_simp; refine hK _ _ ?_; clear hK K) | fail)); refine wpMixH_nil (fun n2 => ?_)
  go_wp2
  all_goals
    go_ret
    exact ⟨ret_int HW.out.symm, (by first | exact below_drewNs hb3.out _ | exact below_drewNs (below_drewNs hb3.out _) _)⟩
set_option maxRecDepth 100000 in
theorem wrong_loaded (h : LookW B w b s n m tv) (hs : StBd s n) (hn : n ≤ 1152921504606846976) {t : Nat} {ad wd er : Int} {ow : Bool} (ht : t < 8) (hhow : (s.th t).how = 0) (he : EvWf ⟨t, 10, ad, wd, ow, er⟩) (hf : fmd ⟨t, 10, ad, wd, ow, er⟩ = true) :
    Calls Try.prog 73 #[.pointer (some ⟨b, 0, none⟩), evV ⟨t, 10, ad, wd, ow, er⟩] w fun x w' => x = .returned (.int .i64 (wrong s ⟨t, 10, ad, wd, ow, er⟩)) ∧ Below w.heap.size w w' := by
  have HW : Hid (wrong s ⟨t, 10, ad, wd, ow, er⟩ = 0) := Lib.hid (by
    unfold wrong wrg
    dsimp only
    rw [hf, Int.toNat_natCast, hhow]
    simp [tb, lockK, wordOk, ownOk, hhow])
  have C1 := Lib.hid (fun W => formed_b ⟨t, 10, ad, wd, ow, er⟩ W he.2.2.2.1.1 he.2.2.2.1.2)
  rw [hf] at C1
  have hb1 := Lib.hid ((Below.refl w.heap.size w).alloc (Nat.le_refl _) (.cells #[.int .i64 t, .int .i64 10, .int .u64 ad, .int .u64 wd, .bool ow, .int .i64 er] 61))
  have hB := Lib.hid (h.blk.alloc (.cells #[.int .i64 t, .int .i64 10, .int .u64 ad, .int .u64 wd, .bool ow, .int .i64 er] 61))
  have hE := Lib.hid (Blk.new w 61 #[.int .i64 t, .int .i64 10, .int .u64 ad, .int .u64 wd, .bool ow, .int .i64 er])
  have g0 := gL_tb (s := s) (m := m) (tv := tv) (h := 0) (k := 10) (by decide) (by decide)
  have g1 := gL_how (s := s) (m := m) (tv := tv) ht
  rw [hhow] at g1
  rw [show tb 0 ((10 : Nat) : Int) = 1 from by decide] at g0
  unfold evV at *
  dsimp only at *
  clear hf he
  clear hn
  go_enter Try.func73, Try.ntmps73
  go_wp2_with fail
  refine (C1.out _).mono ?_
  rintro _ w2 ⟨rfl, hb2⟩
  have hB2 := hB.out.below hb2 hB.out.lt
  have hE2 := hE.out.below hb2 hE.out.lt
  have hb3 := Lib.hid (hb1.out.trans (hb2.mono (by simp)))
  have c0 := (hB2.fcell (i := 52 + t * 4) (by omega)).trans (congrArg some g1)
  have c1 := (hB2.fcell (i := 10) (by omega)).trans (congrArg some g0)
  have e0 := hE2.cell 0
  have e1 := hE2.cell 1
  have e2 := hE2.cell 2
  have e3 := hE2.cell 3
  have e4 := hE2.cell 4
  have e5 := hE2.cell 5
  simp only [List.getElem?_toArray, List.getElem?_cons_zero, List.getElem?_cons_succ] at e0 e1 e2 e3 e4 e5
  have ht' : (t : Int) < 8 := by omega
  clear hb2 hB2 hE2 hB hE g0 g1 hb1 h hs hhow
  go_wp2
  refine wp_region_mixH (fun _ => True) [3, 3, 1, 3, 3, 3, 3] (List.range 7) (by kernel_rfl) (by kernel_rfl) (fun _ _ h => h) trivial ?_; (repeat (first | ((first | refine wpMixH_pure rfl rfl (fun K hK => ?_) | refine wpMixH_loc rfl rfl (fun K hK => ?_) | refine wpMixH_any rfl rfl (fun K hK => ?_)); go_simp; refine hK _ _ ?_; clear hK K) | (refine wpMixH_skip rfl (by go_simp) (fun K hK => ?_); go_simp; refine hK _ _ ?_; clear hK K) | fail)); refine wpMixH_nil (fun n1 => ?_)
  go_wp2
  refine wp_region_mixH (fun _ => True) [3, 3, 3, 3, 1, 3, 1, 3, 3, 3, 3, 1, 3, 3, 3, 3, 3, 1, 3, 3, 3, 1, 3, 3, 3, 3, 1, 3, 3, 3] (List.range 30) (by kernel_rfl) (by kernel_rfl) (fun _ _ h => h) trivial ?_; (repeat (first | ((first | refine wpMixH_pure rfl rfl (fun K hK => ?_) | refine wpMixH_loc rfl rfl (fun K hK => ?_) | refine wpMixH_any rfl rfl (fun K hK => ?_)); go_simp; refine hK _ _ ?_; clear hK K) | (refine wpMixH_skip rfl (by go_simp) (fun K hK => ?_); go_simp; refine hK _ _ ?_; clear hK K) | fail)); refine wpMixH_nil (fun n2 => ?_)
  go_wp2
  all_goals
    go_ret
    exact ⟨ret_int HW.out.symm, (by first | exact below_drewNs hb3.out _ | exact below_drewNs (below_drewNs hb3.out _) _)⟩
end
end Go.Proofs.Ytloiadhdkgkjkaa
