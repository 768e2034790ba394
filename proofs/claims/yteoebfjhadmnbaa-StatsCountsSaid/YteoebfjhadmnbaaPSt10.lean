/- (*events.look).wrong by contract: kind by kind (printed by ev/mkwrong.py). -/
import Derived.Test.YteoebfjhadmnbaaPSt6
import Derived.Test.YteoebfjhadmnbaaPSt7
import Derived.Test.YteoebfjhadmnbaaPSt8
import Derived.Test.YteoebfjhadmnbaaPSt9
namespace Go.Proofs.Yteoebfjhadmnbaa
open Go.RowKit
set_option maxHeartbeats 4000000
set_option linter.unusedVariables false
set_option linter.unusedSimpArgs false
section
variable {B b n : Nat} {w : World} {s : St} {m : Nat → Option Nat} {tv : Value}
set_option maxRecDepth 100000 in
theorem wrong_stored (h : LookW B w b s n m tv) (hs : StBd s n) (hn : n ≤ 1152921504606846976) {t : Nat} {ad wd er : Int} {ow : Bool} (ht : t < 8) (hhow : (s.th t).how = 0) (he : EvWf ⟨t, 11, ad, wd, ow, er⟩) (hf : fmd ⟨t, 11, ad, wd, ow, er⟩ = true) :
    Calls Try.prog 56 #[.pointer (some ⟨b, 0, none⟩), evV ⟨t, 11, ad, wd, ow, er⟩] w fun x w' => x = .returned (.int .i64 (wrong s ⟨t, 11, ad, wd, ow, er⟩)) ∧ Below w.heap.size w w' := by
  have HW : Hid (wrong s ⟨t, 11, ad, wd, ow, er⟩ = 0) := Lib.hid (by
    unfold wrong wrg
    dsimp only
    rw [hf, Int.toNat_natCast, hhow]
    simp [tb, lockK, wordOk, ownOk, hhow])
  have C1 := Lib.hid (fun W => formed_b ⟨t, 11, ad, wd, ow, er⟩ W he.2.2.2.1.1 he.2.2.2.1.2)
  rw [hf] at C1
  have hb1 := Lib.hid ((Below.refl w.heap.size w).alloc (Nat.le_refl _) (.cells #[.int .i64 t, .int .i64 11, .int .u64 ad, .int .u64 wd, .bool ow, .int .i64 er] 27))
  have hB := Lib.hid (h.blk.alloc (.cells #[.int .i64 t, .int .i64 11, .int .u64 ad, .int .u64 wd, .bool ow, .int .i64 er] 27))
  have hE := Lib.hid (Blk.new w 27 #[.int .i64 t, .int .i64 11, .int .u64 ad, .int .u64 wd, .bool ow, .int .i64 er])
  have g0 := gL_tb (s := s) (m := m) (tv := tv) (h := 0) (k := 11) (by decide) (by decide)
  have g1 := gL_how (s := s) (m := m) (tv := tv) ht
  rw [hhow] at g1
  rw [show tb 0 ((11 : Nat) : Int) = 1 from by decide] at g0
  unfold evV at *
  dsimp only at *
  clear hf he
  clear hn
  go_enter Try.func56, Try.ntmps56
  go_wp2_with fail
  refine (C1.out _).mono ?_
  rintro _ w2 ⟨rfl, hb2⟩
  have hB2 := hB.out.below hb2 hB.out.lt
  have hE2 := hE.out.below hb2 hE.out.lt
  have hb3 := Lib.hid (hb1.out.trans (hb2.mono (by simp)))
  have c0 := (hB2.fcell (i := 52 + t * 4) (by omega)).trans (congrArg some g1)
  have c1 := (hB2.fcell (i := 11) (by omega)).trans (congrArg some g0)
  have e0 := hE2.cell 0
  have e1 := hE2.cell 1
  have e2 := hE2.cell 2
  have e3 := hE2.cell 3
  have e4 := hE2.cell 4
  have e5 := hE2.cell 5
  simp only [List.getElem?_toArray, List.getElem?_cons_zero, List.getElem?_cons_succ] at e0 e1 e2 e3 e4 e5
  have ht' : (t : Int) < 8 := by omega
  clear hb2 hB2 hE2 hB hE g0 g1 hb1 h hs hhow
  go_wp2
  refine wp_region_mixH (fun _ => True) [3, 3, 1, 3, 3, 3, 3] (List.range 7) (by kernel_rfl) (by kernel_rfl) (fun _ _ h => h) trivial ?_; (repeat (first | ((first | refine wpMixH_pure rfl rfl (fun K hK => ?_) | refine wpMixH_loc rfl rfl (fun K hK => ?_) | refine wpMixH_any rfl rfl (fun K hK => ?_)); go_simp; refine hK _ _ ?_; clear hK K) | (refine wpMixH_skip rfl (by go_simp) (fun K hK => ?_); go_simp; refine hK _ _ ?_; clear hK K) | fail)); refine wpMixH_nil (fun n1 => ?_)
  go_wp2
  refine wp_region_mixH (fun _ => True) [3, 3, 3, 3, 1, 3, 1, 3, 3, 3, 3, 1, 3, 3, 3, 3, 3, 1, 3, 3, 3, 1, 3, 3, 3, 3, 1, 3, 3, 3] (List.range 30) (by kernel_rfl) (by kernel_rfl) (fun _ _ h => h) trivial ?_; (repeat (first | ((first | refine wpMixH_pure rfl rfl (fun K hK => ?_) | refine wpMixH_loc rfl rfl (fun K hK => ?_) | refine wpMixH_any rfl rfl (fun K hK => ?_)); go_simp; refine hK _ _ ?_; clear hK K) | (refine wpMixH_skip rfl (by go_simp) (fun K hK => ?_); go_simp; refine hK _ _ ?_; clear hK K) | fail)); refine wpMixH_nil (fun n2 => ?_)
  go_wp2
  all_goals
    go_ret
    exact ⟨ret_int HW.out.symm, (by first | exact below_drewNs hb3.out _ | exact below_drewNs (below_drewNs hb3.out _) _)⟩
set_option maxRecDepth 100000 in
theorem wrong_halted (h : LookW B w b s n m tv) (hs : StBd s n) (hn : n ≤ 1152921504606846976) {t : Nat} {ad wd er : Int} {ow : Bool} (ht : t < 8) (hhow : (s.th t).how = 0) (he : EvWf ⟨t, 12, ad, wd, ow, er⟩) (hf : fmd ⟨t, 12, ad, wd, ow, er⟩ = true) :
    Calls Try.prog 56 #[.pointer (some ⟨b, 0, none⟩), evV ⟨t, 12, ad, wd, ow, er⟩] w fun x w' => x = .returned (.int .i64 (wrong s ⟨t, 12, ad, wd, ow, er⟩)) ∧ Below w.heap.size w w' := by
  have HW : Hid (wrong s ⟨t, 12, ad, wd, ow, er⟩ = 0) := Lib.hid (by
    unfold wrong wrg
    dsimp only
    rw [hf, Int.toNat_natCast, hhow]
    simp [tb, lockK, wordOk, ownOk, hhow])
  have C1 := Lib.hid (fun W => formed_b ⟨t, 12, ad, wd, ow, er⟩ W he.2.2.2.1.1 he.2.2.2.1.2)
  rw [hf] at C1
  have hb1 := Lib.hid ((Below.refl w.heap.size w).alloc (Nat.le_refl _) (.cells #[.int .i64 t, .int .i64 12, .int .u64 ad, .int .u64 wd, .bool ow, .int .i64 er] 27))
  have hB := Lib.hid (h.blk.alloc (.cells #[.int .i64 t, .int .i64 12, .int .u64 ad, .int .u64 wd, .bool ow, .int .i64 er] 27))
  have hE := Lib.hid (Blk.new w 27 #[.int .i64 t, .int .i64 12, .int .u64 ad, .int .u64 wd, .bool ow, .int .i64 er])
  have g0 := gL_tb (s := s) (m := m) (tv := tv) (h := 0) (k := 12) (by decide) (by decide)
  have g1 := gL_how (s := s) (m := m) (tv := tv) ht
  rw [hhow] at g1
  rw [show tb 0 ((12 : Nat) : Int) = 4 from by decide] at g0
  unfold evV at *
  dsimp only at *
  clear hf he
  clear hn
  go_enter Try.func56, Try.ntmps56
  go_wp2_with fail
  refine (C1.out _).mono ?_
  rintro _ w2 ⟨rfl, hb2⟩
  have hB2 := hB.out.below hb2 hB.out.lt
  have hE2 := hE.out.below hb2 hE.out.lt
  have hb3 := Lib.hid (hb1.out.trans (hb2.mono (by simp)))
  have c0 := (hB2.fcell (i := 52 + t * 4) (by omega)).trans (congrArg some g1)
  have c1 := (hB2.fcell (i := 12) (by omega)).trans (congrArg some g0)
  have e0 := hE2.cell 0
  have e1 := hE2.cell 1
  have e2 := hE2.cell 2
  have e3 := hE2.cell 3
  have e4 := hE2.cell 4
  have e5 := hE2.cell 5
  simp only [List.getElem?_toArray, List.getElem?_cons_zero, List.getElem?_cons_succ] at e0 e1 e2 e3 e4 e5
  have ht' : (t : Int) < 8 := by omega
  clear hb2 hB2 hE2 hB hE g0 g1 hb1 h hs hhow
  go_wp2
  refine wp_region_mixH (fun _ => True) [3, 3, 1, 3, 3, 3, 3] (List.range 7) (by kernel_rfl) (by kernel_rfl) (fun _ _ h => h) trivial ?_; (repeat (first | ((first | refine wpMixH_pure rfl rfl (fun K hK => ?_) | refine wpMixH_loc rfl rfl (fun K hK => ?_) | refine wpMixH_any rfl rfl (fun K hK => ?_)); go_simp; refine hK _ _ ?_; clear hK K) | (refine wpMixH_skip rfl (by go_simp) (fun K hK => ?_); go_simp; refine hK _ _ ?_; clear hK K) | fail)); refine wpMixH_nil (fun n1 => ?_)
  go_wp2
  refine wp_region_mixH (fun _ => True) [3, 3, 3, 3, 1, 3, 1, 3, 3, 3, 3, 1, 3, 3, 3, 3, 3, 1, 3, 3, 3, 1, 3, 3, 3, 3, 1, 3, 3, 3] (List.range 30) (by kernel_rfl) (by kernel_rfl) (fun _ _ h => h) trivial ?_; (repeat (first | ((first | refine wpMixH_pure rfl rfl (fun K hK => ?_) | refine wpMixH_loc rfl rfl (fun K hK => ?_) | refine wpMixH_any rfl rfl (fun K hK => ?_)); go_simp; refine hK _ _ ?_; clear hK K) | (refine wpMixH_skip rfl (by go_simp) (fun K hK => ?_); go_simp; refine hK _ _ ?_; clear hK K) | fail)); refine wpMixH_nil (fun n2 => ?_)
  go_wp2
  all_goals
    go_ret
    exact ⟨ret_int HW.out.symm, (by first | exact below_drewNs hb3.out _ | exact below_drewNs (below_drewNs hb3.out _) _)⟩
set_option maxRecDepth 100000 in
theorem wrong_fail0 (h : LookW B w b s n m tv) (hs : StBd s n) (hn : n ≤ 1152921504606846976) {t : Nat} {ad wd er : Int} {ow : Bool} (ht : t < 8) (hhow : (s.th t).how = 0) (he : EvWf ⟨t, 9, ad, wd, ow, er⟩) (hf : fmd ⟨t, 9, ad, wd, ow, er⟩ = true) :
    Calls Try.prog 56 #[.pointer (some ⟨b, 0, none⟩), evV ⟨t, 9, ad, wd, ow, er⟩] w fun x w' => x = .returned (.int .i64 (wrong s ⟨t, 9, ad, wd, ow, er⟩)) ∧ Below w.heap.size w w' := by
  have HW : Hid (wrong s ⟨t, 9, ad, wd, ow, er⟩ = if er = 4 then 0 else 230) := Lib.hid (by
    unfold wrong wrg
    dsimp only
    rw [hf, Int.toNat_natCast, hhow]
    simp [tb, lockK, wordOk, ownOk, hhow])
  have C1 := Lib.hid (fun W => formed_b ⟨t, 9, ad, wd, ow, er⟩ W he.2.2.2.1.1 he.2.2.2.1.2)
  rw [hf] at C1
  have hb1 := Lib.hid ((Below.refl w.heap.size w).alloc (Nat.le_refl _) (.cells #[.int .i64 t, .int .i64 9, .int .u64 ad, .int .u64 wd, .bool ow, .int .i64 er] 27))
  have hB := Lib.hid (h.blk.alloc (.cells #[.int .i64 t, .int .i64 9, .int .u64 ad, .int .u64 wd, .bool ow, .int .i64 er] 27))
  have hE := Lib.hid (Blk.new w 27 #[.int .i64 t, .int .i64 9, .int .u64 ad, .int .u64 wd, .bool ow, .int .i64 er])
  have g0 := gL_tb (s := s) (m := m) (tv := tv) (h := 0) (k := 9) (by decide) (by decide)
  have g1 := gL_how (s := s) (m := m) (tv := tv) ht
  rw [hhow] at g1
  rw [show tb 0 ((9 : Nat) : Int) = 4 from by decide] at g0
  unfold evV at *
  dsimp only at *
  clear hf he
  clear hn
  go_enter Try.func56, Try.ntmps56
  go_wp2_with fail
  refine (C1.out _).mono ?_
  rintro _ w2 ⟨rfl, hb2⟩
  have hB2 := hB.out.below hb2 hB.out.lt
  have hE2 := hE.out.below hb2 hE.out.lt
  have hb3 := Lib.hid (hb1.out.trans (hb2.mono (by simp)))
  have c0 := (hB2.fcell (i := 52 + t * 4) (by omega)).trans (congrArg some g1)
  have c1 := (hB2.fcell (i := 9) (by omega)).trans (congrArg some g0)
  have e0 := hE2.cell 0
  have e1 := hE2.cell 1
  have e2 := hE2.cell 2
  have e3 := hE2.cell 3
  have e4 := hE2.cell 4
  have e5 := hE2.cell 5
  simp only [List.getElem?_toArray, List.getElem?_cons_zero, List.getElem?_cons_succ] at e0 e1 e2 e3 e4 e5
  have ht' : (t : Int) < 8 := by omega
  clear hb2 hB2 hE2 hB hE g0 g1 hb1 h hs hhow
  go_wp2
  refine wp_region_mixH (fun _ => True) [3, 3, 1, 3, 3, 3, 3] (List.range 7) (by kernel_rfl) (by kernel_rfl) (fun _ _ h => h) trivial ?_; (repeat (first | ((first | refine wpMixH_pure rfl rfl (fun K hK => ?_) | refine wpMixH_loc rfl rfl (fun K hK => ?_) | refine wpMixH_any rfl rfl (fun K hK => ?_)); go_simp; refine hK _ _ ?_; clear hK K) | (refine wpMixH_skip rfl (by go_simp) (fun K hK => ?_); go_simp; refine hK _ _ ?_; clear hK K) | fail)); refine wpMixH_nil (fun n1 => ?_)
  go_wp2
  refine wp_region_mixH (fun _ => True) [3, 3, 3, 3, 1, 3, 1, 3, 3, 3, 3, 1, 3, 3, 3, 3, 3, 1, 3, 3, 3, 1, 3, 3, 3, 3, 1, 3, 3, 3] (List.range 30) (by kernel_rfl) (by kernel_rfl) (fun _ _ h => h) trivial ?_; (repeat (first | ((first | refine wpMixH_pure rfl rfl (fun K hK => ?_) | refine wpMixH_loc rfl rfl (fun K hK => ?_) | refine wpMixH_any rfl rfl (fun K hK => ?_)); go_simp; refine hK _ _ ?_; clear hK K) | (refine wpMixH_skip rfl (by go_simp) (fun K hK => ?_); go_simp; refine hK _ _ ?_; clear hK K) | fail)); refine wpMixH_nil (fun n2 => ?_)
  go_wp2
  all_goals
    go_ret
    exact ⟨ret_int (by rw [HW.out]; ((repeat' split) <;> first | rfl | omega | (simp_all; done) | (simp_all; omega))), (by first | exact below_drewNs hb3.out _ | exact below_drewNs (below_drewNs hb3.out _) _)⟩
set_option maxRecDepth 100000 in
theorem wrong_commit2 (h : LookW B w b s n m tv) (hs : StBd s n) (hn : n ≤ 1152921504606846976) {t : Nat} {ad wd er : Int} {ow : Bool} (ht : t < 8) (hhow : (s.th t).how = 2) (he : EvWf ⟨t, 6, ad, wd, ow, er⟩) (hf : fmd ⟨t, 6, ad, wd, ow, er⟩ = true) :
    Calls Try.prog 56 #[.pointer (some ⟨b, 0, none⟩), evV ⟨t, 6, ad, wd, ow, er⟩] w fun x w' => x = .returned (.int .i64 (wrong s ⟨t, 6, ad, wd, ow, er⟩)) ∧ Below w.heap.size w w' := by
  have HW : Hid (wrong s ⟨t, 6, ad, wd, ow, er⟩ = if wd = s.num + 1 then 0 else 232) := Lib.hid (by
    unfold wrong wrg
    dsimp only
    rw [hf, Int.toNat_natCast, hhow]
    simp [tb, lockK, wordOk, ownOk, hhow])
  have C1 := Lib.hid (fun W => formed_b ⟨t, 6, ad, wd, ow, er⟩ W he.2.2.2.1.1 he.2.2.2.1.2)
  rw [hf] at C1
  have hb1 := Lib.hid ((Below.refl w.heap.size w).alloc (Nat.le_refl _) (.cells #[.int .i64 t, .int .i64 6, .int .u64 ad, .int .u64 wd, .bool ow, .int .i64 er] 27))
  have hB := Lib.hid (h.blk.alloc (.cells #[.int .i64 t, .int .i64 6, .int .u64 ad, .int .u64 wd, .bool ow, .int .i64 er] 27))
  have hE := Lib.hid (Blk.new w 27 #[.int .i64 t, .int .i64 6, .int .u64 ad, .int .u64 wd, .bool ow, .int .i64 er])
  have g0 := gL_tb (s := s) (m := m) (tv := tv) (h := 2) (k := 6) (by decide) (by decide)
  have g1 := gL_how (s := s) (m := m) (tv := tv) ht
  rw [hhow] at g1
  rw [show tb 2 ((6 : Nat) : Int) = 1 from by decide] at g0
  have g3 : gL s m tv 84 = .int .u64 s.num := rfl
  have hnum := hs.num
  generalize s.num = num at *
  have hw2 : IntKind.u64.wrap (2 * num) = 2 * num := by rw [IntKind.wrap_u64]; omega
  have hw3 : IntKind.u64.wrap (num + 1) = num + 1 := by rw [IntKind.wrap_u64]; omega
  unfold evV at *
  dsimp only at *
  clear hf he
  clear hn hnum
  go_enter Try.func56, Try.ntmps56
  go_wp2_with fail
  refine (C1.out _).mono ?_
  rintro _ w2 ⟨rfl, hb2⟩
  have hB2 := hB.out.below hb2 hB.out.lt
  have hE2 := hE.out.below hb2 hE.out.lt
  have hb3 := Lib.hid (hb1.out.trans (hb2.mono (by simp)))
  have c0 := (hB2.fcell (i := 52 + t * 4) (by omega)).trans (congrArg some g1)
  have c1 := (hB2.fcell (i := 32) (by omega)).trans (congrArg some g0)
  have c3 := (hB2.fcell (i := 84) (by omega)).trans (congrArg some g3)
  have e0 := hE2.cell 0
  have e1 := hE2.cell 1
  have e2 := hE2.cell 2
  have e3 := hE2.cell 3
  have e4 := hE2.cell 4
  have e5 := hE2.cell 5
  simp only [List.getElem?_toArray, List.getElem?_cons_zero, List.getElem?_cons_succ] at e0 e1 e2 e3 e4 e5
  have ht' : (t : Int) < 8 := by omega
  clear hb2 hB2 hE2 hB hE g0 g1 hb1 h hs hhow g3
  go_wp2
  refine wp_region_mixH (fun _ => True) [3, 3, 1, 3, 3, 3, 3] (List.range 7) (by kernel_rfl) (by kernel_rfl) (fun _ _ h => h) trivial ?_; (repeat (first | ((first | refine wpMixH_pure rfl rfl (fun K hK => ?_) | refine wpMixH_loc rfl rfl (fun K hK => ?_) | refine wpMixH_any rfl rfl (fun K hK => ?_)); go_simp; refine hK _ _ ?_; clear hK K) | (refine wpMixH_skip rfl (by go_simp) (fun K hK => ?_); go_simp; refine hK _ _ ?_; clear hK K) | fail)); refine wpMixH_nil (fun n1 => ?_)
  go_wp2
  refine wp_region_mixH (fun _ => True) [3, 3, 3, 3, 1, 3, 1, 3, 3, 3, 3, 1, 3, 3, 3, 3, 3, 1, 3, 3, 3, 1, 3, 3, 3, 3, 1, 3, 3, 3] (List.range 30) (by kernel_rfl) (by kernel_rfl) (fun _ _ h => h) trivial ?_; (repeat (first | ((first | refine wpMixH_pure rfl rfl (fun K hK => ?_) | refine wpMixH_loc rfl rfl (fun K hK => ?_) | refine wpMixH_any rfl rfl (fun K hK => ?_)); go_simp; refine hK _ _ ?_; clear hK K) | (refine wpMixH_skip rfl (by go_simp) (fun K hK => ?_); go_simp; refine hK _ _ ?_; clear hK K) | fail)); refine wpMixH_nil (fun n2 => ?_)
  go_wp2
  refine wp_region_mixH (fun _ => True) [3, 1, 3, 3, 3, 1, 3, 3, 3] (List.range 9) (by kernel_rfl) (by kernel_rfl) (fun _ _ h => h) trivial ?_; (repeat (first | ((first | refine wpMixH_pure rfl rfl (fun K hK => ?_) | refine wpMixH_loc rfl rfl (fun K hK => ?_) | refine wpMixH_any rfl rfl (fun K hK => ?_)); go_simp; refine hK _ _ ?_; clear hK K) | (refine wpMixH_skip rfl (by go_simp) (fun K hK => ?_); go_simp; refine hK _ _ ?_; clear hK K) | fail)); refine wpMixH_nil (fun n3 => ?_)
  go_wp2
  all_goals
    go_ret
    exact ⟨ret_int (by rw [HW.out]; ((repeat' split) <;> first | rfl | omega | (simp_all; done) | (simp_all; omega))), (by first | exact below_drewNs hb3.out _ | exact below_drewNs (below_drewNs hb3.out _) _)⟩
end
end Go.Proofs.Yteoebfjhadmnbaa
/- (*events.look).wrong by contract: kind by kind (printed by ev/mkwrong.py). -/
namespace Go.Proofs.Yteoebfjhadmnbaa
open Go.RowKit
set_option maxHeartbeats 4000000
set_option linter.unusedVariables false
set_option linter.unusedSimpArgs false
section
variable {B b n : Nat} {w : World} {s : St} {m : Nat → Option Nat} {tv : Value}
set_option maxRecDepth 100000 in
theorem wrong_locked (h : LookW B w b s n m tv) (hs : StBd s n) (hn : n ≤ 1152921504606846976) {t : Nat} {ad wd er : Int} {ow : Bool} (ht : t < 8) (hhow : (s.th t).how = 1) (he : EvWf ⟨t, 5, ad, wd, ow, er⟩) (hf : fmd ⟨t, 5, ad, wd, ow, er⟩ = true) :
    Calls Try.prog 56 #[.pointer (some ⟨b, 0, none⟩), evV ⟨t, 5, ad, wd, ow, er⟩] w fun x w' => x = .returned (.int .i64 (wrong s ⟨t, 5, ad, wd, ow, er⟩)) ∧ Below w.heap.size w w' := by
  have HW : Hid (wrong s ⟨t, 5, ad, wd, ow, er⟩ = if 0 ≤ s.hold then 231 else if (s.th t).sn = 2 * s.num then (if (s.th t).ws = [] then 233 else 0) else 232) := Lib.hid (by
    unfold wrong wrg
    dsimp only
    rw [hf, Int.toNat_natCast, hhow]
    simp [tb, lockK, wordOk, ownOk, hhow])
  have C1 := Lib.hid (fun W => formed_b ⟨t, 5, ad, wd, ow, er⟩ W he.2.2.2.1.1 he.2.2.2.1.2)
  rw [hf] at C1
  have hb1 := Lib.hid ((Below.refl w.heap.size w).alloc (Nat.le_refl _) (.cells #[.int .i64 t, .int .i64 5, .int .u64 ad, .int .u64 wd, .bool ow, .int .i64 er] 27))
  have hB := Lib.hid (h.blk.alloc (.cells #[.int .i64 t, .int .i64 5, .int .u64 ad, .int .u64 wd, .bool ow, .int .i64 er] 27))
  have hE := Lib.hid (Blk.new w 27 #[.int .i64 t, .int .i64 5, .int .u64 ad, .int .u64 wd, .bool ow, .int .i64 er])
  have g0 := gL_tb (s := s) (m := m) (tv := tv) (h := 1) (k := 5) (by decide) (by decide)
  have g1 := gL_how (s := s) (m := m) (tv := tv) ht
  rw [hhow] at g1
  rw [show tb 1 ((5 : Nat) : Int) = 3 from by decide] at g0
  have g2 := gL_sn (s := s) (m := m) (tv := tv) ht
  have hsn := (hs.sn t).1
  have hsn1 := (hs.sn t).2
  generalize (s.th t).sn = sn at *
  have hsq : IntKind.u64.wrap (sn.tdiv 2) = sn / 2 := by rw [Int.tdiv_eq_ediv_of_nonneg hsn, IntKind.wrap_u64]; omega
  clear hsn1
  have g3 : gL s m tv 84 = .int .u64 s.num := rfl
  have hnum := hs.num
  generalize s.num = num at *
  have hw2 : IntKind.u64.wrap (2 * num) = 2 * num := by rw [IntKind.wrap_u64]; omega
  have hw3 : IntKind.u64.wrap (num + 1) = num + 1 := by rw [IntKind.wrap_u64]; omega
  have g4 : gL s m tv 85 = .int .i64 s.hold := rfl
  have hhold := hs.hold
  generalize s.hold = hold at *
  have g5 := gL_ws (s := s) (m := m) (tv := tv) ht
  obtain ⟨mb, hmb, _, hM⟩ := h.maps t ht (by unfold liveT; omega)
  rw [hmb] at g5
  generalize (s.th t).ws = ws at *
  replace hM := Lib.hid (hM.alloc (.cells #[.int .i64 t, .int .i64 5, .int .u64 ad, .int .u64 wd, .bool ow, .int .i64 er] 27))
  clear hmb
  unfold evV at *
  dsimp only at *
  clear hf he
  clear hn hnum
  go_enter Try.func56, Try.ntmps56
  go_wp2_with fail
  refine (C1.out _).mono ?_
  rintro _ w2 ⟨rfl, hb2⟩
  have hB2 := hB.out.below hb2 hB.out.lt
  have hE2 := hE.out.below hb2 hE.out.lt
  have hb3 := Lib.hid (hb1.out.trans (hb2.mono (by simp)))
  have c0 := (hB2.fcell (i := 52 + t * 4) (by omega)).trans (congrArg some g1)
  have c1 := (hB2.fcell (i := 18) (by omega)).trans (congrArg some g0)
  have c2 := (hB2.fcell (i := 52 + t * 4 + 1) (by omega)).trans (congrArg some g2)
  have c3 := (hB2.fcell (i := 84) (by omega)).trans (congrArg some g3)
  have c4 := (hB2.fcell (i := 85) (by omega)).trans (congrArg some g4)
  have c5 := (hB2.fcell (i := 52 + t * 4 + 2) (by omega)).trans (congrArg some g5)
  have hM2 := Lib.hid (hM.out.keep (hb2.block mb hM.out.lt))
  have e0 := hE2.cell 0
  have e1 := hE2.cell 1
  have e2 := hE2.cell 2
  have e3 := hE2.cell 3
  have e4 := hE2.cell 4
  have e5 := hE2.cell 5
  simp only [List.getElem?_toArray, List.getElem?_cons_zero, List.getElem?_cons_succ] at e0 e1 e2 e3 e4 e5
  have ht' : (t : Int) < 8 := by omega
  clear hb2 hB2 hE2 hB hE g0 g1 hb1 h hs hhow g2 g3 g4 g5 hM
  obtain ⟨ml, hlen0, -, hml⟩ := hM2.out.len (P := Try.prog) (t := 90) Try.underlying90 3
  have hlen : ∀ j, (Builtin.len_ #[90] 3 #[.map (some mb)]).run Try.prog (w2.drewN j) = .ok (.int .i64 ml) (w2.drewN j) := fun j => by
    obtain ⟨ml', h1, -, h2⟩ := Mp.len (P := Try.prog) (hM2.out.drewN j) (t := 90) Try.underlying90 3
    have e : ml' = ml := by
      obtain ⟨es, clock, g1, _⟩ := hM2.out
      have a1 := hlen0
      have a2 := h1
      simp [Builtin.len_, run_underlying Try.underlying90, MapKept.run_getObj_map g1, goInt, Result.andThen] at a1
      simp [Builtin.len_, run_underlying Try.underlying90, MapKept.run_getObj_map (w := w2.drewN j) g1, goInt, Result.andThen] at a2
      omega
    rw [← e]
    exact h1
  have hml2 : (ml = 0 ∧ ws = []) ∨ (0 < ml ∧ ws ≠ []) := by
    rcases Nat.eq_zero_or_pos ml with h0 | h0
    · exact .inl ⟨h0, written_none.1 fun a => by have := hml.1 h0 a; unfold wfun at this; simpa using this⟩
    · refine .inr ⟨h0, fun e => ?_⟩
      have := hml.2 fun k => by rw [e]; rfl
      omega
  clear hlen0 hml
  go_wp2
  refine wp_region_mixH (fun _ => True) [3, 3, 1, 3, 3, 3, 3] (List.range 7) (by kernel_rfl) (by kernel_rfl) (fun _ _ h => h) trivial ?_; (repeat (first | ((first | refine wpMixH_pure rfl rfl (fun K hK => ?_) | refine wpMixH_loc rfl rfl (fun K hK => ?_) | refine wpMixH_any rfl rfl (fun K hK => ?_)); go_simp; refine hK _ _ ?_; clear hK K) | (refine wpMixH_skip rfl (by go_simp) (fun K hK => ?_); go_simp; refine hK _ _ ?_; clear hK K) | fail)); refine wpMixH_nil (fun n1 => ?_)
  go_wp2
  refine wp_region_mixH (fun _ => True) [3, 3, 3, 3, 1, 3, 1, 3, 3, 3, 3, 1, 3, 3, 3, 3, 3, 1, 3, 3, 3, 1, 3, 3, 3, 3, 1, 3, 3, 3] (List.range 30) (by kernel_rfl) (by kernel_rfl) (fun _ _ h => h) trivial ?_; (repeat (first | ((first | refine wpMixH_pure rfl rfl (fun K hK => ?_) | refine wpMixH_loc rfl rfl (fun K hK => ?_) | refine wpMixH_any rfl rfl (fun K hK => ?_)); go_simp; refine hK _ _ ?_; clear hK K) | (refine wpMixH_skip rfl (by go_simp) (fun K hK => ?_); go_simp; refine hK _ _ ?_; clear hK K) | fail)); refine wpMixH_nil (fun n2 => ?_)
  go_wp2
  refine wp_region_mixH (fun _ => True) [3, 3, 3, 1, 3, 3, 3, 1, 3, 3, 3, 3, 3, 1, 1, 3, 3, 3] (List.range 18) (by kernel_rfl) (by kernel_rfl) (fun _ _ h => h) trivial ?_; (repeat (first | ((first | refine wpMixH_pure rfl rfl (fun K hK => ?_) | refine wpMixH_loc rfl rfl (fun K hK => ?_) | refine wpMixH_any rfl rfl (fun K hK => ?_)); go_simp; refine hK _ _ ?_; clear hK K) | (refine wpMixH_skip rfl (by go_simp) (fun K hK => ?_); go_simp; refine hK _ _ ?_; clear hK K) | fail)); refine wpMixH_nil (fun n3 => ?_)
  go_wp2
  all_goals
    go_ret
    exact ⟨ret_int (by rw [HW.out]; ((repeat' split) <;> first | rfl | omega | (simp_all; done) | (simp_all; omega))), (by first | exact below_drewNs hb3.out _ | exact below_drewNs (below_drewNs hb3.out _) _)⟩
set_option maxRecDepth 100000 in
theorem wrong_commit1 (h : LookW B w b s n m tv) (hs : StBd s n) (hn : n ≤ 1152921504606846976) {t : Nat} {ad wd er : Int} {ow : Bool} (ht : t < 8) (hhow : (s.th t).how = 1) (he : EvWf ⟨t, 6, ad, wd, ow, er⟩) (hf : fmd ⟨t, 6, ad, wd, ow, er⟩ = true) :
    Calls Try.prog 56 #[.pointer (some ⟨b, 0, none⟩), evV ⟨t, 6, ad, wd, ow, er⟩] w fun x w' => x = .returned (.int .i64 (wrong s ⟨t, 6, ad, wd, ow, er⟩)) ∧ Below w.heap.size w w' := by
  have HW : Hid (wrong s ⟨t, 6, ad, wd, ow, er⟩ = if wd = (s.th t).sn / 2 then (if (s.th t).ws = [] then 0 else 233) else 232) := Lib.hid (by
    unfold wrong wrg
    dsimp only
    rw [hf, Int.toNat_natCast, hhow]
    simp [tb, lockK, wordOk, ownOk, hhow])
  have C1 := Lib.hid (fun W => formed_b ⟨t, 6, ad, wd, ow, er⟩ W he.2.2.2.1.1 he.2.2.2.1.2)
  rw [hf] at C1
  have hb1 := Lib.hid ((Below.refl w.heap.size w).alloc (Nat.le_refl _) (.cells #[.int .i64 t, .int .i64 6, .int .u64 ad, .int .u64 wd, .bool ow, .int .i64 er] 27))
  have hB := Lib.hid (h.blk.alloc (.cells #[.int .i64 t, .int .i64 6, .int .u64 ad, .int .u64 wd, .bool ow, .int .i64 er] 27))
  have hE := Lib.hid (Blk.new w 27 #[.int .i64 t, .int .i64 6, .int .u64 ad, .int .u64 wd, .bool ow, .int .i64 er])
  have g0 := gL_tb (s := s) (m := m) (tv := tv) (h := 1) (k := 6) (by decide) (by decide)
  have g1 := gL_how (s := s) (m := m) (tv := tv) ht
  rw [hhow] at g1
  rw [show tb 1 ((6 : Nat) : Int) = 1 from by decide] at g0
  have g2 := gL_sn (s := s) (m := m) (tv := tv) ht
  have hsn := (hs.sn t).1
  have hsn1 := (hs.sn t).2
  generalize (s.th t).sn = sn at *
  have hsq : IntKind.u64.wrap (sn.tdiv 2) = sn / 2 := by rw [Int.tdiv_eq_ediv_of_nonneg hsn, IntKind.wrap_u64]; omega
  clear hsn1
  have g5 := gL_ws (s := s) (m := m) (tv := tv) ht
  obtain ⟨mb, hmb, _, hM⟩ := h.maps t ht (by unfold liveT; omega)
  rw [hmb] at g5
  generalize (s.th t).ws = ws at *
  replace hM := Lib.hid (hM.alloc (.cells #[.int .i64 t, .int .i64 6, .int .u64 ad, .int .u64 wd, .bool ow, .int .i64 er] 27))
  clear hmb
  unfold evV at *
  dsimp only at *
  clear hf he
  clear hn
  go_enter Try.func56, Try.ntmps56
  go_wp2_with fail
  refine (C1.out _).mono ?_
  rintro _ w2 ⟨rfl, hb2⟩
  have hB2 := hB.out.below hb2 hB.out.lt
  have hE2 := hE.out.below hb2 hE.out.lt
  have hb3 := Lib.hid (hb1.out.trans (hb2.mono (by simp)))
  have c0 := (hB2.fcell (i := 52 + t * 4) (by omega)).trans (congrArg some g1)
  have c1 := (hB2.fcell (i := 19) (by omega)).trans (congrArg some g0)
  have c2 := (hB2.fcell (i := 52 + t * 4 + 1) (by omega)).trans (congrArg some g2)
  have c5 := (hB2.fcell (i := 52 + t * 4 + 2) (by omega)).trans (congrArg some g5)
  have hM2 := Lib.hid (hM.out.keep (hb2.block mb hM.out.lt))
  have e0 := hE2.cell 0
  have e1 := hE2.cell 1
  have e2 := hE2.cell 2
  have e3 := hE2.cell 3
  have e4 := hE2.cell 4
  have e5 := hE2.cell 5
  simp only [List.getElem?_toArray, List.getElem?_cons_zero, List.getElem?_cons_succ] at e0 e1 e2 e3 e4 e5
  have ht' : (t : Int) < 8 := by omega
  clear hb2 hB2 hE2 hB hE g0 g1 hb1 h hs hhow g2 g5 hM
  obtain ⟨ml, hlen0, -, hml⟩ := hM2.out.len (P := Try.prog) (t := 90) Try.underlying90 3
  have hlen : ∀ j, (Builtin.len_ #[90] 3 #[.map (some mb)]).run Try.prog (w2.drewN j) = .ok (.int .i64 ml) (w2.drewN j) := fun j => by
    obtain ⟨ml', h1, -, h2⟩ := Mp.len (P := Try.prog) (hM2.out.drewN j) (t := 90) Try.underlying90 3
    have e : ml' = ml := by
      obtain ⟨es, clock, g1, _⟩ := hM2.out
      have a1 := hlen0
      have a2 := h1
      simp [Builtin.len_, run_underlying Try.underlying90, MapKept.run_getObj_map g1, goInt, Result.andThen] at a1
      simp [Builtin.len_, run_underlying Try.underlying90, MapKept.run_getObj_map (w := w2.drewN j) g1, goInt, Result.andThen] at a2
      omega
    rw [← e]
    exact h1
  have hml2 : (ml = 0 ∧ ws = []) ∨ (0 < ml ∧ ws ≠ []) := by
    rcases Nat.eq_zero_or_pos ml with h0 | h0
    · exact .inl ⟨h0, written_none.1 fun a => by have := hml.1 h0 a; unfold wfun at this; simpa using this⟩
    · refine .inr ⟨h0, fun e => ?_⟩
      have := hml.2 fun k => by rw [e]; rfl
      omega
  clear hlen0 hml
  go_wp2
  refine wp_region_mixH (fun _ => True) [3, 3, 1, 3, 3, 3, 3] (List.range 7) (by kernel_rfl) (by kernel_rfl) (fun _ _ h => h) trivial ?_; (repeat (first | ((first | refine wpMixH_pure rfl rfl (fun K hK => ?_) | refine wpMixH_loc rfl rfl (fun K hK => ?_) | refine wpMixH_any rfl rfl (fun K hK => ?_)); go_simp; refine hK _ _ ?_; clear hK K) | (refine wpMixH_skip rfl (by go_simp) (fun K hK => ?_); go_simp; refine hK _ _ ?_; clear hK K) | fail)); refine wpMixH_nil (fun n1 => ?_)
  go_wp2
  refine wp_region_mixH (fun _ => True) [3, 3, 3, 3, 1, 3, 1, 3, 3, 3, 3, 1, 3, 3, 3, 3, 3, 1, 3, 3, 3, 1, 3, 3, 3, 3, 1, 3, 3, 3] (List.range 30) (by kernel_rfl) (by kernel_rfl) (fun _ _ h => h) trivial ?_; (repeat (first | ((first | refine wpMixH_pure rfl rfl (fun K hK => ?_) | refine wpMixH_loc rfl rfl (fun K hK => ?_) | refine wpMixH_any rfl rfl (fun K hK => ?_)); go_simp; refine hK _ _ ?_; clear hK K) | (refine wpMixH_skip rfl (by go_simp) (fun K hK => ?_); go_simp; refine hK _ _ ?_; clear hK K) | fail)); refine wpMixH_nil (fun n2 => ?_)
  go_wp2
  refine wp_region_mixH (fun _ => True) [3, 1, 3, 3, 3, 1, 3, 3, 3, 3, 3, 1, 1, 3, 3, 3] (List.range 16) (by kernel_rfl) (by kernel_rfl) (fun _ _ h => h) trivial ?_; (repeat (first | ((first | refine wpMixH_pure rfl rfl (fun K hK => ?_) | refine wpMixH_loc rfl rfl (fun K hK => ?_) | refine wpMixH_any rfl rfl (fun K hK => ?_)); go_simp; refine hK _ _ ?_; clear hK K) | (refine wpMixH_skip rfl (by go_simp) (fun K hK => ?_); go_simp; refine hK _ _ ?_; clear hK K) | fail)); refine wpMixH_nil (fun n3 => ?_)
  go_wp2
  all_goals
    go_ret
    exact ⟨ret_int (by rw [HW.out]; ((repeat' split) <;> first | rfl | omega | (simp_all; done) | (simp_all; omega))), (by first | exact below_drewNs hb3.out _ | exact below_drewNs (below_drewNs hb3.out _) _)⟩
set_option maxRecDepth 100000 in
theorem wrong_read (h : LookW B w b s n m tv) (hs : StBd s n) (hn : n ≤ 1152921504606846976) {t : Nat} {ad wd er : Int} {ow : Bool} (ht : t < 8) (hhow : (s.th t).how = 1) (he : EvWf ⟨t, 2, ad, wd, ow, er⟩) (hf : fmd ⟨t, 2, ad, wd, ow, er⟩ = true) :
    Calls Try.prog 56 #[.pointer (some ⟨b, 0, none⟩), evV ⟨t, 2, ad, wd, ow, er⟩] w fun x w' => x = .returned (.int .i64 (wrong s ⟨t, 2, ad, wd, ow, er⟩)) ∧ Below w.heap.size w w' := by
  have HW : Hid (wrong s ⟨t, 2, ad, wd, ow, er⟩ = if (written (s.th t).ws ad).isSome = ow ∧ (ow = true → (written (s.th t).ws ad).getD 0 = wd) then 0 else 233) := Lib.hid (by
    unfold wrong wrg
    dsimp only
    rw [hf, Int.toNat_natCast, hhow]
    simp [tb, lockK, wordOk, ownOk, hhow]
    cases hwr : written (s.th t).ws ad <;> cases ow <;> simp)
  have C1 := Lib.hid (fun W => formed_b ⟨t, 2, ad, wd, ow, er⟩ W he.2.2.2.1.1 he.2.2.2.1.2)
  rw [hf] at C1
  have hb1 := Lib.hid ((Below.refl w.heap.size w).alloc (Nat.le_refl _) (.cells #[.int .i64 t, .int .i64 2, .int .u64 ad, .int .u64 wd, .bool ow, .int .i64 er] 27))
  have hB := Lib.hid (h.blk.alloc (.cells #[.int .i64 t, .int .i64 2, .int .u64 ad, .int .u64 wd, .bool ow, .int .i64 er] 27))
  have hE := Lib.hid (Blk.new w 27 #[.int .i64 t, .int .i64 2, .int .u64 ad, .int .u64 wd, .bool ow, .int .i64 er])
  have g0 := gL_tb (s := s) (m := m) (tv := tv) (h := 1) (k := 2) (by decide) (by decide)
  have g1 := gL_how (s := s) (m := m) (tv := tv) ht
  rw [hhow] at g1
  rw [show tb 1 ((2 : Nat) : Int) = 2 from by decide] at g0
  have g5 := gL_ws (s := s) (m := m) (tv := tv) ht
  obtain ⟨mb, hmb, _, hM⟩ := h.maps t ht (by unfold liveT; omega)
  rw [hmb] at g5
  generalize (s.th t).ws = ws at *
  replace hM := Lib.hid (hM.alloc (.cells #[.int .i64 t, .int .i64 2, .int .u64 ad, .int .u64 wd, .bool ow, .int .i64 er] 27))
  clear hmb
  unfold evV at *
  dsimp only at *
  clear hf he
  clear hn
  go_enter Try.func56, Try.ntmps56
  go_wp2_with fail
  refine (C1.out _).mono ?_
  rintro _ w2 ⟨rfl, hb2⟩
  have hB2 := hB.out.below hb2 hB.out.lt
  have hE2 := hE.out.below hb2 hE.out.lt
  have hb3 := Lib.hid (hb1.out.trans (hb2.mono (by simp)))
  have c0 := (hB2.fcell (i := 52 + t * 4) (by omega)).trans (congrArg some g1)
  have c1 := (hB2.fcell (i := 15) (by omega)).trans (congrArg some g0)
  have c5 := (hB2.fcell (i := 52 + t * 4 + 2) (by omega)).trans (congrArg some g5)
  have hM2 := Lib.hid (hM.out.keep (hb2.block mb hM.out.lt))
  have e0 := hE2.cell 0
  have e1 := hE2.cell 1
  have e2 := hE2.cell 2
  have e3 := hE2.cell 3
  have e4 := hE2.cell 4
  have e5 := hE2.cell 5
  simp only [List.getElem?_toArray, List.getElem?_cons_zero, List.getElem?_cons_succ] at e0 e1 e2 e3 e4 e5
  have ht' : (t : Int) < 8 := by omega
  clear hb2 hB2 hE2 hB hE g0 g1 hb1 h hs hhow g5 hM
  have hlk0 : ∀ j, (Instr.lookup 90 (.map (some mb)) (.int .u64 ad) true).run Try.prog (w2.drewN j) = .ok (.tuple #[.int .u64 ((written ws ad).getD 0), .bool (written ws ad).isSome]) (w2.drewN j) := fun j => by
    have := Mp.lookup (P := Try.prog) (hM2.out.drewN j) (t := 90) Try.underlying90 Try.underlying24 (z := .int .u64 0) (by kernel_rfl) ad true
    rw [this]
    unfold wfun
    cases written ws ad <;> rfl
  generalize (written ws ad).getD 0 = x0 at *
  generalize (written ws ad).isSome = ok at *
  cases ok <;> cases ow
  all_goals
    go_wp2
    refine wp_region_mixH (fun _ => True) [3, 3, 1, 3, 3, 3, 3] (List.range 7) (by kernel_rfl) (by kernel_rfl) (fun _ _ h => h) trivial ?_; (repeat (first | ((first | refine wpMixH_pure rfl rfl (fun K hK => ?_) | refine wpMixH_loc rfl rfl (fun K hK => ?_) | refine wpMixH_any rfl rfl (fun K hK => ?_)); go_simp; refine hK _ _ ?_; clear hK K) | (refine wpMixH_skip rfl (by go_simp) (fun K hK => ?_); go_simp; refine hK _ _ ?_; clear hK K) | fail)); refine wpMixH_nil (fun n1 => ?_)
    go_wp2
    refine wp_region_mixH (fun _ => True) [3, 3, 3, 3, 1, 3, 1, 3, 3, 3, 3, 1, 3, 3, 3, 3, 3, 1, 3, 3, 3, 1, 3, 3, 3, 3, 1, 3, 3, 3] (List.range 30) (by kernel_rfl) (by kernel_rfl) (fun _ _ h => h) trivial ?_; (repeat (first | ((first | refine wpMixH_pure rfl rfl (fun K hK => ?_) | refine wpMixH_loc rfl rfl (fun K hK => ?_) | refine wpMixH_any rfl rfl (fun K hK => ?_)); go_simp; refine hK _ _ ?_; clear hK K) | (refine wpMixH_skip rfl (by go_simp) (fun K hK => ?_); go_simp; refine hK _ _ ?_; clear hK K) | fail)); refine wpMixH_nil (fun n2 => ?_)
    go_wp2
    refine wp_region_mixH (fun _ => True) [3, 3, 3, 1, 3, 1, 1, 3, 3, 3, 3, 3] (List.range 12) (by kernel_rfl) (by kernel_rfl) (fun _ _ h => h) trivial ?_; (repeat (first | ((first | refine wpMixH_pure rfl rfl (fun K hK => ?_) | refine wpMixH_loc rfl rfl (fun K hK => ?_) | refine wpMixH_any rfl rfl (fun K hK => ?_)); go_simp; refine hK _ _ ?_; clear hK K) | (refine wpMixH_skip rfl (by go_simp) (fun K hK => ?_); go_simp; refine hK _ _ ?_; clear hK K) | fail)); refine wpMixH_nil (fun n3 => ?_)
    go_wp2
    all_goals
      go_ret
      exact ⟨ret_int (by rw [HW.out]; ((repeat' split) <;> first | rfl | omega | (simp_all; done) | (simp_all; omega))), (by first | exact below_drewNs hb3.out _ | exact below_drewNs (below_drewNs hb3.out _) _)⟩
end
end Go.Proofs.Yteoebfjhadmnbaa
/- (*events.look).wrong by contract, whatever the event. -/
namespace Go.Proofs.Yteoebfjhadmnbaa
open Go.RowKit
theorem wrong_b {B b n : Nat} {w : World} {s : St} {m : Nat → Option Nat} {tv : Value} (h : LookW B w b s n m tv) (hs : StBd s n) (hn : n ≤ 1152921504606846976) (e : Ev) (he : EvWf e) :
    Calls Try.prog 56 #[.pointer (some ⟨b, 0, none⟩), evV e] w fun x w' => x = .returned (.int .i64 (wrong s e)) ∧ Below w.heap.size w w' := by
  cases hf : fmd e with
  | false =>
    have e1 : wrong s e = 201 := by unfold wrong wrg; rw [hf]; rfl
    rw [e1]
    exact wrong_form e he hf
  | true =>
    obtain ⟨⟨h0, h8⟩, k1, k12⟩ := fmd_bd hf
    obtain ⟨th, kd, ad, wd, ow, er⟩ := e
    dsimp only at h0 h8 k1 k12
    obtain ⟨t, rfl⟩ := Int.eq_ofNat_of_zero_le h0
    obtain ⟨k, rfl⟩ := Int.eq_ofNat_of_zero_le (show 0 ≤ kd by omega)
    have ht : t < 8 := by omega
    have hk : k < 13 := by omega
    by_cases htb : tb (s.th t).how k = 0
    · have e1 : wrong s ⟨t, k, ad, wd, ow, er⟩ = 230 := by
        unfold wrong wrg
        dsimp only
        rw [hf, Int.toNat_natCast, if_neg (by simp), if_pos (.inl htb)]
      rw [e1]
      exact wrong_turn h ht hk (hs.how t) he hf htb
    · have hh := hs.how t
      have hc : ((s.th t).how = 0 ∧ (k = 1 ∨ k = 9 ∨ k = 10 ∨ k = 11 ∨ k = 12)) ∨ ((s.th t).how = 1 ∧ (k = 2 ∨ k = 3 ∨ k = 4 ∨ k = 5 ∨ k = 6 ∨ k = 7 ∨ k = 8 ∨ k = 9)) ∨ ((s.th t).how = 2 ∧ k = 6) := by
        unfold tb at htb
        repeat' split at htb
        all_goals omega
      rcases hc with ⟨hw, rfl | rfl | rfl | rfl | rfl⟩ | ⟨hw, rfl | rfl | rfl | rfl | rfl | rfl | rfl | rfl⟩ | ⟨hw, rfl⟩
      · exact wrong_begin h hs hn ht hw he hf
      · exact wrong_fail0 h hs hn ht hw he hf
      · exact wrong_loaded h hs hn ht hw he hf
      · exact wrong_stored h hs hn ht hw he hf
      · exact wrong_halted h hs hn ht hw he hf
      · exact wrong_read h hs hn ht hw he hf
      · exact wrong_write h hs hn ht hw he hf
      · exact wrong_moved h hs hn ht hw he hf
      · exact wrong_locked h hs hn ht hw he hf
      · exact wrong_commit1 h hs hn ht hw he hf
      · exact wrong_stale h hs hn ht hw he hf
      · exact wrong_abort h hs hn ht hw he hf
      · exact wrong_fail1 h hs hn ht hw he hf
      · exact wrong_commit2 h hs hn ht hw he hf
end Go.Proofs.Yteoebfjhadmnbaa
/- (*events.look).take by contract, whatever the event that can be. -/
namespace Go.Proofs.Yteoebfjhadmnbaa
open Go.RowKit
theorem tb_ok {how k : Nat} (hh : how < 4) (hk : k < 13) (h : tb how k ≠ 0) : (how = 0 ∧ (k = 1 ∨ k = 9 ∨ k = 10 ∨ k = 11 ∨ k = 12)) ∨ (how = 1 ∧ (k = 2 ∨ k = 3 ∨ k = 4 ∨ k = 5 ∨ k = 6 ∨ k = 7 ∨ k = 8 ∨ k = 9)) ∨ (how = 2 ∧ k = 6) := by
  unfold tb at h
  repeat' split at h
  all_goals omega
theorem wrong_zero {s : St} {e : Ev} (h : wrong s e = 0) : fmd e = true ∧ tb (s.th e.th.toNat).how e.kd ≠ 0 ∧ ¬ ((s.th e.th.toNat).how = 0 ∧ e.kd = 9 ∧ e.er ≠ 4) ∧ (lockK e.kd = true → s.hold < 0) ∧ wordOk (s.th e.th.toNat) s.num e = true ∧ ownOk (s.th e.th.toNat) e = true := by
  unfold wrong wrg at h
  split at h
  · simp at h
  split at h
  · simp at h
  split at h
  · simp at h
  split at h
  · simp at h
  split at h
  · simp at h
  rename_i h1 h2 h3 h4 h5
  refine ⟨by simpa using h1, fun h0 => h2 (.inl h0), fun h0 => h2 (.inr h0), fun hl => ?_, by simpa using h4, by simpa using h5⟩
  rw [hl] at h3
  simpa using h3
theorem take_b {B b n : Nat} {w : World} {s : St} {m : Nat → Option Nat} {tv : Value} (h : LookW B w b s n m tv) (hBw : B ≤ w.heap.size) (hs : StBd s n) (hn : n ≤ 1152921504606846976) (hln : (s.tries.length + 1) * 56 ≤ 140737488355328) (e : Ev) (hwz : wrong s e = 0) (i : Nat) :
    Calls Try.prog 57 #[.pointer (some ⟨b, 0, none⟩), .int .i64 i, evV e] w fun x w' => x = .returned (.tuple #[]) ∧ Below B w w' ∧ ∃ m' tv', LookW B w' b (take s i e) (n + 1) m' tv' := by
  obtain ⟨hf, htb, -⟩ := wrong_zero hwz
  clear hwz
  obtain ⟨⟨h0, h8⟩, k1, k12⟩ := fmd_bd hf
  obtain ⟨th, kd, ad, wd, ow, er⟩ := e
  dsimp only at h0 h8 k1 k12 htb
  obtain ⟨t, rfl⟩ := Int.eq_ofNat_of_zero_le h0
  obtain ⟨k, rfl⟩ := Int.eq_ofNat_of_zero_le (show 0 ≤ kd by omega)
  rw [Int.toNat_natCast] at htb
  have ht : t < 8 := by omega
  have hk : k < 13 := by omega
  have hh := hs.how t
  obtain ⟨how, sn, ws, tr, hth⟩ : ∃ how sn ws tr, s.th t = ⟨how, sn, ws, tr⟩ := ⟨_, _, _, _, rfl⟩
  rw [hth] at htb hh
  rcases tb_ok hh hk htb with ⟨hw, rfl | rfl | rfl | rfl | rfl⟩ | ⟨hw, rfl | rfl | rfl | rfl | rfl | rfl | rfl | rfl⟩ | ⟨hw, rfl⟩
  all_goals
    dsimp only at hw
    subst hw
  · exact take_begin h hBw hs hn hln ht hth
  · exact take_fail0 h hBw hs hn ht hth
  · exact take_loaded h hBw hs hn ht hth
  · exact take_stored h hBw hs hn ht hth
  · exact take_halted h hBw hs hn ht hth
  · cases ow
    · exact take_read h hBw hs hn ht hth
    · exact take_own h hBw hs hn ht hth
  · exact take_write h hBw hs hn ht hth
  · exact take_moved h hBw hs hn ht hth
  · exact take_locked h hBw hs hn ht hth
  · exact take_commit1 h hBw hs hn ht hth
  · exact take_stale h hBw hs hn ht hth
  · exact take_abort h hBw hs hn ht hth
  · exact take_fail1 h hBw hs hn ht hth
  · exact take_commit2 h hBw hs hn ht hth
end Go.Proofs.Yteoebfjhadmnbaa
/- What holds of the look over a history behind each event, plain. -/
namespace Go.Proofs.Yteoebfjhadmnbaa
set_option maxHeartbeats 1000000
set_option linter.unusedVariables false
set_option linter.unusedSimpArgs false

def lv (t : Th) : Nat := if t.how = 1 ∨ t.how = 2 then 1 else 0
def lives (s : St) : Nat := lv (s.th 0) + lv (s.th 1) + lv (s.th 2) + lv (s.th 3) + lv (s.th 4) + lv (s.th 5) + lv (s.th 6) + lv (s.th 7)
structure Inv (s : St) (k : Nat) : Prop where
  bd : StBd s k
  two : 2 * s.tries.length ≤ k + lives s
  hold : ∀ t, t < 8 → ((s.th t).how = 2 ↔ s.hold = (t : Int))
  op : ∀ t, t < 8 → liveT (s.th t) → ∃ x, s.tries[(s.th t).tr]? = some x ∧ x.how = 0 ∧ x.th = (t : Int)
  cl : ∀ (q : Nat) (x : Tr), s.tries[q]? = some x → ∃ t : Nat, t < 8 ∧ x.th = (t : Int) ∧ (x.how = 0 → liveT (s.th t) ∧ (s.th t).tr = q)
theorem lives_le (s : St) : lives s ≤ 8 := by
  have h : ∀ t : Th, lv t ≤ 1 := fun t => by unfold lv; split <;> omega
  unfold lives
  have := h (s.th 0); have := h (s.th 1); have := h (s.th 2); have := h (s.th 3); have := h (s.th 4); have := h (s.th 5); have := h (s.th 6); have := h (s.th 7)
  omega
theorem lives_upd (s : St) {t : Nat} (ht : t < 8) (x : Th) (n : Int) (h : Int) (l : List Tr) : lives ⟨fun j => if j = t then x else s.th j, n, h, l⟩ + lv (s.th t) = lives s + lv x := by
  have : t = 0 ∨ t = 1 ∨ t = 2 ∨ t = 3 ∨ t = 4 ∨ t = 5 ∨ t = 6 ∨ t = 7 := by omega
  unfold lives
  rcases this with rfl | rfl | rfl | rfl | rfl | rfl | rfl | rfl <;> simp <;> omega
theorem inv_zero : Inv St.zero 0 where
  bd := ⟨by simp [St.zero], by simp [St.zero], fun t => by simp [St.zero], fun t => by simp [St.zero], fun t h => by simp [St.zero, liveT] at h, by simp [St.zero], fun x hx => by simp [St.zero] at hx⟩
  two := by simp [St.zero]
  hold := fun t ht => by simp [St.zero]
  op := fun t ht h => by simp [St.zero, liveT] at h
  cl := fun q x h => by simp [St.zero] at h
theorem mem_modify {α : Type} {f : α → α} {l : List α} {i : Nat} {x : α} (h : x ∈ l.modify i f) : x ∈ l ∨ ∃ y ∈ l, x = f y := by
  obtain ⟨j, hj⟩ := List.mem_iff_getElem?.1 h
  rw [List.getElem?_modify] at hj
  cases hl : l[j]? with
  | none => simp [hl] at hj
  | some y =>
    have hm := List.mem_of_getElem? hl
    rw [hl] at hj
    by_cases hij : i = j
    · simp [hij] at hj
      exact .inr ⟨y, hm, hj.symm⟩
    · simp [hij] at hj
      subst hj
      exact .inl hm
theorem inv_take {s : St} {k : Nat} {e : Ev} (hI : Inv s k) (hw : wrong s e = 0) (he : EvWf e) : Inv (take s k e) (k + 1) := by
  obtain ⟨hf, htb, h9, hlk, hwd, hown⟩ := wrong_zero hw
  obtain ⟨⟨h0, h8⟩, k1, k12⟩ := fmd_bd hf
  obtain ⟨th, kd, ad, wd, ow, er⟩ := e
  dsimp only at *
  obtain ⟨t, rfl⟩ := Int.eq_ofNat_of_zero_le h0
  obtain ⟨c, rfl⟩ := Int.eq_ofNat_of_zero_le (show 0 ≤ kd by omega)
  rw [Int.toNat_natCast] at htb h9 hwd hown
  have ht : t < 8 := by omega
  have hc : c < 13 := by omega
  obtain ⟨⟨n0, n1⟩, ⟨hd0, hd1⟩, bhow, bsn, btr, blen, bcnt⟩ := hI.bd
  have hh := bhow t
  have htwo := hI.two
  have hhold := hI.hold
  have hop := hI.op
  have hcl := hI.cl
  have hwb := he.2.2.2.1
  have hcs := tb_ok hh hc htb
  -- the thread behind the event
  have hT : take s k ⟨t, c, ad, wd, ow, er⟩ = ⟨fun j => if j = t then tkT (s.th t) ⟨t, c, ad, wd, ow, er⟩ s.tries.length else s.th j, if c = 6 ∧ (s.th t).how = 2 then wd else s.num, if c = 5 then (t : Int) else if c = 6 ∧ (s.th t).how = 2 then -1 else s.hold,
      if (s.th t).how ≠ 0 ∨ c = 1 then (if c = 1 then s.tries ++ [Tr.new t k] else s.tries).modify (if c = 1 then s.tries.length else (s.th t).tr) (fun x => updT x k ⟨t, c, ad, wd, ow, er⟩) else s.tries⟩ := by
    unfold take
    dsimp only
    rw [Int.toNat_natCast]
    have e1 : ((c : Int) = 1) = (c = 1) := by simp; omega
    have e5 : ((c : Int) = 5) = (c = 5) := by simp; omega
    have e6 : ((c : Int) = 6) = (c = 6) := by simp; omega
    simp only [e1, e5, e6, tkT]
    by_cases h1 : c = 1
    · simp [h1]
    · simp [h1]
  rw [hT]
  have hlv := lives_upd s ht (tkT (s.th t) ⟨t, c, ad, wd, ow, er⟩ s.tries.length)
  generalize hTt : s.th t = T at *
  obtain ⟨how, sn, ws, tr⟩ := T
  dsimp only at *
  have hnum : 0 ≤ (if c = 6 ∧ how = 2 then wd else s.num) ∧ (if c = 6 ∧ how = 2 then wd else s.num) ≤ ((k + 1 : Nat) : Int) := by
    by_cases h6 : c = 6 ∧ how = 2
    · rw [if_pos h6]
      have := hwd
      unfold wordOk at this
      simp [h6] at this
      omega
    · rw [if_neg h6]; omega
  have hhd : -1 ≤ (if c = 5 then (t : Int) else if c = 6 ∧ how = 2 then -1 else s.hold) ∧ (if c = 5 then (t : Int) else if c = 6 ∧ how = 2 then -1 else s.hold) < 8 := by
    repeat' split
    all_goals omega
  have hlk5 : c = 5 → s.hold < 0 := fun h5 => hlk (by subst h5; rfl)
  rcases hcs with ⟨rfl, hc0⟩ | hB
  · by_cases hc1 : c = 1
    · -- a Begin
      subst hc1
      have hT' : tkT ⟨0, sn, ws, tr⟩ ⟨t, (1 : Nat), ad, wd, ow, er⟩ s.tries.length = ⟨1, wd, [], s.tries.length⟩ := by simp [tkT, tb]
      have hlen : s.tries.length < (s.tries ++ [Tr.new t k]).length := by simp
      have hL : (s.tries ++ [Tr.new t k]).modify s.tries.length (fun x => updT x k ⟨t, (1 : Nat), ad, wd, ow, er⟩) = s.tries ++ [⟨t, k, k, wd, 0, 0, 0⟩] := by
        rw [modify_set _ _ _ hlen]
        simp [Tr.new, updT]
      rw [hT'] at hlv ⊢
      simp only [if_pos, ne_eq, not_true_eq_false, or_true, if_true]
      rw [hL]
      refine ⟨⟨by simpa using hnum, by simpa using hhd, fun j => ?_, fun j => ?_, fun j hj => ?_, ?_, fun x hx => ?_⟩, ?_, fun j hj => ?_, fun j hj hl => ?_, fun q x hx => ?_⟩
      · dsimp only; split
        · simp
        · exact bhow j
      · dsimp only; split
        · exact hwb
        · exact bsn j
      · dsimp only at hj ⊢
        rw [List.length_append]
        by_cases hjt : j = t
        · rw [if_pos hjt]; simp
        · rw [if_neg hjt] at hj ⊢
          have := btr j hj
          simp; omega
      · simp; omega
      · rcases List.mem_append.1 hx with hx | hx
        · have := bcnt x hx; omega
        · rw [List.mem_singleton] at hx; subst hx; simp
      · have e1 : lv ⟨0, sn, ws, tr⟩ = 0 := rfl
        have e2 : lv ⟨1, wd, [], s.tries.length⟩ = 1 := rfl
        have hq := lives_upd s ht ⟨1, wd, [], s.tries.length⟩ (if 1 = 6 ∧ 0 = 2 then wd else s.num) (if 1 = 5 then (t : Int) else if 1 = 6 ∧ 0 = 2 then -1 else s.hold) (s.tries ++ [⟨t, k, k, wd, 0, 0, 0⟩])
        rw [hTt, e1, e2] at hq
        rw [List.length_append]
        simp only [List.length_cons, List.length_nil] at *
        omega
      · have := hhold j hj
        by_cases hjt : j = t
        · subst hjt
          rw [hTt] at this
          simp at this ⊢
          omega
        · simp [hjt]
          exact this
      · by_cases hjt : j = t
        · subst hjt
          exact ⟨⟨j, k, k, wd, 0, 0, 0⟩, by simp, rfl, rfl⟩
        · simp only [if_neg hjt] at hl ⊢
          obtain ⟨x, hx, r⟩ := hop j hj hl
          refine ⟨x, ?_, r⟩
          rw [List.getElem?_append_left (List.getElem?_eq_some_iff.1 hx).1]
          exact hx
      · rcases Nat.lt_or_ge q s.tries.length with hq | hq
        · rw [List.getElem?_append_left hq] at hx
          obtain ⟨t0, h1, h2, h3⟩ := hcl q x hx
          refine ⟨t0, h1, h2, fun h0 => ?_⟩
          obtain ⟨h4, h5⟩ := h3 h0
          have hne : t0 ≠ t := fun e => by subst e; rw [hTt] at h4; simp [liveT] at h4
          simp only [if_neg hne]
          exact ⟨h4, h5⟩
        · rw [List.getElem?_append_right hq] at hx
          have hq0 : q - s.tries.length = 0 := by
            rcases Nat.eq_zero_or_pos (q - s.tries.length) with h | h
            · exact h
            · rw [List.getElem?_eq_none (by simp; omega)] at hx; cases hx
          rw [hq0] at hx
          simp at hx
          subst hx
          refine ⟨t, ht, rfl, fun _ => ?_⟩
          simp only [if_pos]
          exact ⟨.inl rfl, by omega⟩
    · -- outside, no Begin
      have hnl : ∀ (X : Th), X = tkT ⟨0, sn, ws, tr⟩ ⟨t, (c : Int), ad, wd, ow, er⟩ s.tries.length → X.how ≠ 1 ∧ X.how ≠ 2 ∧ X.how < 4 ∧ X.sn = sn := fun X hX => by
        subst hX
        rcases hc0 with rfl | rfl | rfl | rfl | rfl
        all_goals simp [tkT, tb] at *
      have e7 : ((0 : Nat) ≠ 0 ∨ c = 1) = False := by simp [hc1]
      simp only [e7, if_false]
      generalize tkT ⟨0, sn, ws, tr⟩ ⟨t, (c : Int), ad, wd, ow, er⟩ s.tries.length = X at *
      obtain ⟨x1, x2, x4, x3⟩ := hnl X rfl
      have hnx : ¬ liveT X := by unfold liveT; omega
      have hnT : ¬ liveT (s.th t) := by rw [hTt]; simp [liveT]
      refine ⟨⟨hnum, hhd, fun j => ?_, fun j => ?_, fun j hj => ?_, ?_, fun x hx => ?_⟩, ?_, fun j hj => ?_, fun j hj hl => ?_, fun q x hx => ?_⟩
      · dsimp only; split
        · exact x4
        · exact bhow j
      · dsimp only; split
        · rw [x3]; have := bsn t; rw [hTt] at this; exact this
        · exact bsn j
      · dsimp only at hj ⊢
        by_cases hjt : j = t
        · rw [if_pos hjt] at hj; exact absurd hj hnx
        · rw [if_neg hjt] at hj ⊢; exact btr j hj
      · dsimp only; omega
      · have := bcnt x hx; omega
      · have e1 : lv ⟨0, sn, ws, tr⟩ = 0 := rfl
        have e2 : lv X = 0 := by unfold lv; rw [if_neg (by omega)]
        have hq := hlv (if c = 6 ∧ 0 = 2 then wd else s.num) (if c = 5 then (t : Int) else if c = 6 ∧ 0 = 2 then -1 else s.hold) s.tries
        rw [e1, e2] at hq
        dsimp only
        omega
      · have := hhold j hj
        have hc5 : c ≠ 5 := by omega
        by_cases hjt : j = t
        · subst hjt
          rw [hTt] at this
          simp [hc5] at this ⊢
          omega
        · simp [hjt, hc5]
          exact this
      · dsimp only at hl ⊢
        by_cases hjt : j = t
        · rw [if_pos hjt] at hl; exact absurd hl hnx
        · rw [if_neg hjt] at hl ⊢; exact hop j hj hl
      · obtain ⟨t0, h1, h2, h3⟩ := hcl q x hx
        refine ⟨t0, h1, h2, fun h0 => ?_⟩
        obtain ⟨h4, h5⟩ := h3 h0
        have hne : t0 ≠ t := fun e => by subst e; exact hnT h4
        simp only [if_neg hne]
        exact ⟨h4, h5⟩
  · -- inside
    have hlT : liveT (s.th t) := by rw [hTt]; unfold liveT; dsimp only; omega
    have hc1 : c ≠ 1 := by omega
    have hX : ∀ (X : Th), X = tkT ⟨how, sn, ws, tr⟩ ⟨t, (c : Int), ad, wd, ow, er⟩ s.tries.length → X.how < 4 ∧ (liveT X ↔ (c = 2 ∨ c = 3 ∨ c = 4 ∨ c = 5)) ∧ (X.how = 2 ↔ c = 5) ∧ (X.sn = sn ∨ X.sn = wd) ∧ X.tr = tr := fun X hX => by
      subst hX
      rcases hB with ⟨rfl, rfl | rfl | rfl | rfl | rfl | rfl | rfl | rfl⟩ | ⟨rfl, rfl⟩
      all_goals simp [tkT, tb, liveT]
    have hhow0 : how ≠ 0 := by omega
    have e7 : (how ≠ 0 ∨ c = 1) = True := by simp [hhow0]
    simp only [e7, if_true, if_neg hc1]
    generalize tkT ⟨how, sn, ws, tr⟩ ⟨t, (c : Int), ad, wd, ow, er⟩ s.tries.length = X at *
    obtain ⟨x1, x2, x3, x4, x5⟩ := hX X rfl
    obtain ⟨x0, hx0, hx00, hx0t⟩ := hop t ht hlT
    rw [hTt] at hx0
    dsimp only at hx0
    have hget : ∀ q, (s.tries.modify tr (fun x => updT x k ⟨t, (c : Int), ad, wd, ow, er⟩))[q]? = if q = tr then some (updT x0 k ⟨t, (c : Int), ad, wd, ow, er⟩) else s.tries[q]? := fun q => by
      rw [List.getElem?_modify]
      by_cases hq : q = tr
      · subst hq; simp [hx0]
      · rw [if_neg hq]
        simp [Ne.symm hq]
    have hup : (updT x0 k ⟨t, (c : Int), ad, wd, ow, er⟩).th = t ∧ ((updT x0 k ⟨t, (c : Int), ad, wd, ow, er⟩).how = 0 ↔ (c = 2 ∨ c = 3 ∨ c = 4 ∨ c = 5)) := by
      refine ⟨hx0t, ?_⟩
      rcases hB with ⟨rfl, rfl | rfl | rfl | rfl | rfl | rfl | rfl | rfl⟩ | ⟨rfl, rfl⟩
      all_goals simp [updT, hx00]
    refine ⟨⟨hnum, hhd, fun j => ?_, fun j => ?_, fun j hj => ?_, ?_, fun x hx => ?_⟩, ?_, fun j hj => ?_, fun j hj hl => ?_, fun q x hx => ?_⟩
    · dsimp only; split
      · exact x1
      · exact bhow j
    · dsimp only; split
      · have := bsn t; rw [hTt] at this; dsimp only at this
        rcases x4 with e | e <;> rw [e]
        · exact this
        · exact hwb
      · exact bsn j
    · dsimp only at hj ⊢
      rw [List.length_modify]
      by_cases hjt : j = t
      · rw [if_pos hjt, x5]; exact (List.getElem?_eq_some_iff.1 hx0).1
      · rw [if_neg hjt] at hj ⊢; exact btr j hj
    · simp; omega
    · rcases mem_modify hx with hx | ⟨y, hy, rfl⟩
      · have := bcnt x hx; omega
      · have := bcnt y hy
        unfold updT
        dsimp only
        constructor <;> split <;> omega
    · have e1 : lv ⟨how, sn, ws, tr⟩ = 1 := by unfold lv; dsimp only; rw [if_pos (by omega)]
      have hq := hlv (if c = 6 ∧ how = 2 then wd else s.num) (if c = 5 then (t : Int) else if c = 6 ∧ how = 2 then -1 else s.hold) (s.tries.modify tr (fun x => updT x k ⟨t, (c : Int), ad, wd, ow, er⟩))
      rw [e1] at hq
      rw [List.length_modify]
      omega
    · have hj0 := hhold j hj
      have ht0 := hhold t ht
      rw [hTt] at ht0
      dsimp only at ht0 ⊢
      by_cases hjt : j = t
      · subst hjt
        rw [if_pos rfl, x3]
        constructor
        · intro h5; rw [if_pos h5]
        · intro h5
          by_cases hc5 : c = 5
          · exact hc5
          · rw [if_neg hc5] at h5
            split at h5
            · omega
            · have := ht0.2 h5; omega
      · rw [if_neg hjt, hj0]
        by_cases hc5 : c = 5
        · have := hlk5 hc5
          rw [if_pos hc5]
          omega
        · rw [if_neg hc5]
          split
          · have := ht0.1 (by omega); omega
          · exact Iff.rfl
    · dsimp only at hl ⊢
      by_cases hjt : j = t
      · subst hjt
        rw [if_pos rfl] at hl ⊢
        refine ⟨_, by rw [hget, if_pos x5], hup.2.2 (x2.1 hl), hup.1⟩
      · rw [if_neg hjt] at hl ⊢
        obtain ⟨x, hx, r1, r2⟩ := hop j hj hl
        refine ⟨x, ?_, r1, r2⟩
        rw [hget, if_neg ?_]
        · exact hx
        · intro e
          rw [e, hx0] at hx
          injection hx with hx
          subst hx
          rw [hx0t] at r2
          omega
    · rw [hget] at hx
      by_cases hq : q = tr
      · rw [if_pos hq] at hx
        injection hx with hx
        subst hx
        refine ⟨t, ht, hup.1, fun h0 => ?_⟩
        simp only [if_pos]
        exact ⟨x2.2 (hup.2.1 h0), by rw [x5, hq]⟩
      · rw [if_neg hq] at hx
        obtain ⟨t0, h1, h2, h3⟩ := hcl q x hx
        refine ⟨t0, h1, h2, fun h0 => ?_⟩
        obtain ⟨h4, h5⟩ := h3 h0
        have hne : t0 ≠ t := fun e => by subst e; rw [hTt] at h5; exact hq h5.symm
        simp only [if_neg hne]
        exact ⟨h4, h5⟩
theorem inv_rn {l : List Ev} (hl : ∀ e ∈ l, EvWf e) : ∀ {n : Nat}, n ≤ l.length → okTo l n → Inv (rn l n) n
  | 0, _, _ => inv_zero
  | n + 1, hn, h => by
    have := inv_rn hl (Nat.le_of_succ_le hn) (fun j hj => h j (by omega))
    refine inv_take this (h n (by omega)) ?_
    unfold evAt
    rw [List.getD_eq_getElem?_getD, List.getElem?_eq_getElem hn]
    exact hl _ (List.getElem_mem hn)
end Go.Proofs.Yteoebfjhadmnbaa
