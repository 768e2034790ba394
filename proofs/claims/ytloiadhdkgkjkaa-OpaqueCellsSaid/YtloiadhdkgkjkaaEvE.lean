/- (*events.look).wrong by contract: kind by kind (printed by ev/mkwrong.py). -/
import Derived.Test.YtloiadhdkgkjkaaEvD
namespace Go.Proofs.Ytloiadhdkgkjkaa
open Go.RowKit
set_option maxHeartbeats 4000000
set_option linter.unusedVariables false
set_option linter.unusedSimpArgs false
section
variable {B b n : Nat} {w : World} {s : St} {m : Nat → Option Nat} {tv : Value}
set_option maxRecDepth 100000 in
theorem wrong_begin (h : LookW B w b s n m tv) (hs : StBd s n) (hn : n ≤ 1152921504606846976) {t : Nat} {ad wd er : Int} {ow : Bool} (ht : t < 8) (hhow : (s.th t).how = 0) (he : EvWf ⟨t, 1, ad, wd, ow, er⟩) (hf : fmd ⟨t, 1, ad, wd, ow, er⟩ = true) :
    Calls Try.prog 73 #[.pointer (some ⟨b, 0, none⟩), evV ⟨t, 1, ad, wd, ow, er⟩] w fun x w' => x = .returned (.int .i64 (wrong s ⟨t, 1, ad, wd, ow, er⟩)) ∧ Below w.heap.size w w' := by
  have HW : Hid (wrong s ⟨t, 1, ad, wd, ow, er⟩ = if 0 ≤ s.hold then 231 else if wd = 2 * s.num then 0 else 232) := Lib.hid (by
    unfold wrong wrg
    dsimp only
    rw [hf, Int.toNat_natCast, hhow]
    simp [tb, lockK, wordOk, ownOk, hhow])
  have C1 := Lib.hid (fun W => formed_b ⟨t, 1, ad, wd, ow, er⟩ W he.2.2.2.1.1 he.2.2.2.1.2)
  rw [hf] at C1
  have hb1 := Lib.hid ((Below.refl w.heap.size w).alloc (Nat.le_refl _) (.cells #[.int .i64 t, .int .i64 1, .int .u64 ad, .int .u64 wd, .bool ow, .int .i64 er] 61))
  have hB := Lib.hid (h.blk.alloc (.cells #[.int .i64 t, .int .i64 1, .int .u64 ad, .int .u64 wd, .bool ow, .int .i64 er] 61))
  have hE := Lib.hid (Blk.new w 61 #[.int .i64 t, .int .i64 1, .int .u64 ad, .int .u64 wd, .bool ow, .int .i64 er])
  have g0 := gL_tb (s := s) (m := m) (tv := tv) (h := 0) (k := 1) (by decide) (by decide)
  have g1 := gL_how (s := s) (m := m) (tv := tv) ht
  rw [hhow] at g1
  rw [show tb 0 ((1 : Nat) : Int) = 2 from by decide] at g0
  have g3 : gL s m tv 84 = .int .u64 s.num := rfl
  have hnum := hs.num
  generalize s.num = num at *
  have hw2 : IntKind.u64.wrap (2 * num) = 2 * num := by rw [IntKind.wrap_u64]; omega
  have hw3 : IntKind.u64.wrap (num + 1) = num + 1 := by rw [IntKind.wrap_u64]; omega
  have g4 : gL s m tv 85 = .int .i64 s.hold := rfl
  have hhold := hs.hold
  generalize s.hold = hold at *
  unfold evV at *
  dsimp only at *
  clear hf he
  clear hn hnum
  have hcs : ((wd == 2 * num) = true) ∨ ((wd == 2 * num) = false) := by cases (wd == 2 * num) <;> simp
  rcases hcs with hsp | hsp
  all_goals
    go_enter Try.func73, Try.ntmps73
    go_wp2_with fail
    refine (C1.out _).mono ?_
    rintro _ w2 ⟨rfl, hb2⟩
    have hB2 := hB.out.below hb2 hB.out.lt
    have hE2 := hE.out.below hb2 hE.out.lt
    have hb3 := Lib.hid (hb1.out.trans (hb2.mono (by simp)))
    have c0 := (hB2.fcell (i := 52 + t * 4) (by omega)).trans (congrArg some g1)
    have c1 := (hB2.fcell (i := 1) (by omega)).trans (congrArg some g0)
    have c3 := (hB2.fcell (i := 84) (by omega)).trans (congrArg some g3)
    have c4 := (hB2.fcell (i := 85) (by omega)).trans (congrArg some g4)
    have e0 := hE2.cell 0
    have e1 := hE2.cell 1
    have e2 := hE2.cell 2
    have e3 := hE2.cell 3
    have e4 := hE2.cell 4
    have e5 := hE2.cell 5
    simp only [List.getElem?_toArray, List.getElem?_cons_zero, List.getElem?_cons_succ] at e0 e1 e2 e3 e4 e5
    have ht' : (t : Int) < 8 := by omega
    clear hb2 hB2 hE2 hB hE g0 g1 hb1 h hs hhow g3 g4
    go_wp2
    refine wp_region_mixH (fun _ => True) [3, 3, 1, 3, 3, 3, 3] (List.range 7) (by kernel_rfl) (by kernel_rfl) (fun _ _ h => h) trivial ?_; (repeat (first | ((first | refine wpMixH_pure rfl rfl (fun K hK => ?_) | refine wpMixH_loc rfl rfl (fun K hK => ?_) | refine wpMixH_any rfl rfl (fun K hK => ?_)); go_simp; refine hK _ _ ?_; clear hK K) | (refine wpMixH_skip rfl (by go_simp) (fun K hK => ?_); go_simp; refine hK _ _ ?_; clear hK K) | fail)); refine wpMixH_nil (fun n1 => ?_)
    go_wp2
    refine wp_region_mixH (fun _ => True) [3, 3, 3, 3, 1, 3, 1, 3, 3, 3, 3, 1, 3, 3, 3, 3, 3, 1, 3, 3, 3, 1, 3, 3, 3, 3, 1, 3, 3, 3] (List.range 30) (by kernel_rfl) (by kernel_rfl) (fun _ _ h => h) trivial ?_; (repeat (first | ((first | refine wpMixH_pure rfl rfl (fun K hK => ?_) | refine wpMixH_loc rfl rfl (fun K hK => ?_) | refine wpMixH_any rfl rfl (fun K hK => ?_)); go_simp; refine hK _ _ ?_; clear hK K) | (refine wpMixH_skip rfl (by go_simp) (fun K hK => ?_); go_simp; refine hK _ _ ?_; clear hK K) | fail)); refine wpMixH_nil (fun n2 => ?_)
    go_wp2
    refine wp_region_mixH (fun _ => True) [3, 1, 3, 3, 3, 1, 3, 3, 3, 3, 1, 3, 3, 3, 1, 3, 3, 3, 1, 3, 3, 3, 3] (List.range 23) (by kernel_rfl) (by kernel_rfl) (fun _ _ h => h) trivial ?_; (repeat (first | ((first | refine wpMixH_pure rfl rfl (fun K hK => ?_) | refine wpMixH_loc rfl rfl (fun K hK => ?_) | refine wpMixH_any rfl rfl (fun K hK => ?_)); go_simp; refine hK _ _ ?_; clear hK K) | (refine wpMixH_skip rfl (by go_simp) (fun K hK => ?_); go_simp; refine hK _ _ ?_; clear hK K) | fail)); refine wpMixH_nil (fun n3 => ?_)
    go_wp2
    all_goals
      go_ret
      exact ⟨ret_int (by rw [HW.out]; ((repeat' split) <;> first | rfl | omega | (have h9 := beq_iff_eq.1 hsp; omega) | (have h9 := beq_eq_false_iff_ne.1 hsp; omega) | (simp_all; done) | (simp_all; omega))), (by first | exact below_drewNs hb3.out _ | exact below_drewNs (below_drewNs hb3.out _) _)⟩
set_option maxRecDepth 100000 in
theorem wrong_moved (h : LookW B w b s n m tv) (hs : StBd s n) (hn : n ≤ 1152921504606846976) {t : Nat} {ad wd er : Int} {ow : Bool} (ht : t < 8) (hhow : (s.th t).how = 1) (he : EvWf ⟨t, 4, ad, wd, ow, er⟩) (hf : fmd ⟨t, 4, ad, wd, ow, er⟩ = true) :
    Calls Try.prog 73 #[.pointer (some ⟨b, 0, none⟩), evV ⟨t, 4, ad, wd, ow, er⟩] w fun x w' => x = .returned (.int .i64 (wrong s ⟨t, 4, ad, wd, ow, er⟩)) ∧ Below w.heap.size w w' := by
  have HW : Hid (wrong s ⟨t, 4, ad, wd, ow, er⟩ = if 0 ≤ s.hold then 231 else if wd = 2 * s.num → wd ≤ (s.th t).sn then 232 else 0) := Lib.hid (by
    unfold wrong wrg
    dsimp only
    rw [hf, Int.toNat_natCast, hhow]
    simp [tb, lockK, wordOk, ownOk, hhow])
  have C1 := Lib.hid (fun W => formed_b ⟨t, 4, ad, wd, ow, er⟩ W he.2.2.2.1.1 he.2.2.2.1.2)
  rw [hf] at C1
  have hb1 := Lib.hid ((Below.refl w.heap.size w).alloc (Nat.le_refl _) (.cells #[.int .i64 t, .int .i64 4, .int .u64 ad, .int .u64 wd, .bool ow, .int .i64 er] 61))
  have hB := Lib.hid (h.blk.alloc (.cells #[.int .i64 t, .int .i64 4, .int .u64 ad, .int .u64 wd, .bool ow, .int .i64 er] 61))
  have hE := Lib.hid (Blk.new w 61 #[.int .i64 t, .int .i64 4, .int .u64 ad, .int .u64 wd, .bool ow, .int .i64 er])
  have g0 := gL_tb (s := s) (m := m) (tv := tv) (h := 1) (k := 4) (by decide) (by decide)
  have g1 := gL_how (s := s) (m := m) (tv := tv) ht
  rw [hhow] at g1
  rw [show tb 1 ((4 : Nat) : Int) = 2 from by decide] at g0
  have g2 := gL_sn (s := s) (m := m) (tv := tv) ht
  have hsn := (hs.sn t).1
  have hsn1 := (hs.sn t).2
  generalize (s.th t).sn = sn at *
  have hsq : IntKind.u64.wrap (sn.tdiv 2) = sn / 2 := by rw [Int.tdiv_eq_ediv_of_nonneg hsn, IntKind.wrap_u64]; omega
  clear hsn1
  have g3 : gL s m tv 84 = .int .u64 s.num := rfl
  have hnum := hs.num
  generalize s.num = num at *
  have hw2 : IntKind.u64.wrap (2 * num) = 2 * num := by rw [IntKind.wrap_u64]; omega
  have hw3 : IntKind.u64.wrap (num + 1) = num + 1 := by rw [IntKind.wrap_u64]; omega
  have g4 : gL s m tv 85 = .int .i64 s.hold := rfl
  have hhold := hs.hold
  generalize s.hold = hold at *
  unfold evV at *
  dsimp only at *
  clear hf he
  clear hn hnum
  have hcs : ((wd == 2 * num) = true) ∨ ((wd == 2 * num) = false) := by cases (wd == 2 * num) <;> simp
  rcases hcs with hsp | hsp
  all_goals
    go_enter Try.func73, Try.ntmps73
    go_wp2_with fail
    refine (C1.out _).mono ?_
    rintro _ w2 ⟨rfl, hb2⟩
    have hB2 := hB.out.below hb2 hB.out.lt
    have hE2 := hE.out.below hb2 hE.out.lt
    have hb3 := Lib.hid (hb1.out.trans (hb2.mono (by simp)))
    have c0 := (hB2.fcell (i := 52 + t * 4) (by omega)).trans (congrArg some g1)
    have c1 := (hB2.fcell (i := 17) (by omega)).trans (congrArg some g0)
    have c2 := (hB2.fcell (i := 52 + t * 4 + 1) (by omega)).trans (congrArg some g2)
    have c3 := (hB2.fcell (i := 84) (by omega)).trans (congrArg some g3)
    have c4 := (hB2.fcell (i := 85) (by omega)).trans (congrArg some g4)
    have e0 := hE2.cell 0
    have e1 := hE2.cell 1
    have e2 := hE2.cell 2
    have e3 := hE2.cell 3
    have e4 := hE2.cell 4
    have e5 := hE2.cell 5
    simp only [List.getElem?_toArray, List.getElem?_cons_zero, List.getElem?_cons_succ] at e0 e1 e2 e3 e4 e5
    have ht' : (t : Int) < 8 := by omega
    clear hb2 hB2 hE2 hB hE g0 g1 hb1 h hs hhow g2 g3 g4
    go_wp2
    refine wp_region_mixH (fun _ => True) [3, 3, 1, 3, 3, 3, 3] (List.range 7) (by kernel_rfl) (by kernel_rfl) (fun _ _ h => h) trivial ?_; (repeat (first | ((first | refine wpMixH_pure rfl rfl (fun K hK => ?_) | refine wpMixH_loc rfl rfl (fun K hK => ?_) | refine wpMixH_any rfl rfl (fun K hK => ?_)); go_simp; refine hK _ _ ?_; clear hK K) | (refine wpMixH_skip rfl (by go_simp) (fun K hK => ?_); go_simp; refine hK _ _ ?_; clear hK K) | fail)); refine wpMixH_nil (fun n1 => ?_)
    go_wp2
    refine wp_region_mixH (fun _ => True) [3, 3, 3, 3, 1, 3, 1, 3, 3, 3, 3, 1, 3, 3, 3, 3, 3, 1, 3, 3, 3, 1, 3, 3, 3, 3, 1, 3, 3, 3] (List.range 30) (by kernel_rfl) (by kernel_rfl) (fun _ _ h => h) trivial ?_; (repeat (first | ((first | refine wpMixH_pure rfl rfl (fun K hK => ?_) | refine wpMixH_loc rfl rfl (fun K hK => ?_) | refine wpMixH_any rfl rfl (fun K hK => ?_)); go_simp; refine hK _ _ ?_; clear hK K) | (refine wpMixH_skip rfl (by go_simp) (fun K hK => ?_); go_simp; refine hK _ _ ?_; clear hK K) | fail)); refine wpMixH_nil (fun n2 => ?_)
    go_wp2
    refine wp_region_mixH (fun _ => True) [3, 1, 3, 3, 3, 1, 3, 3, 3, 3, 1, 3, 3, 3, 1, 3, 3, 3, 1, 3, 3, 3, 3] (List.range 23) (by kernel_rfl) (by kernel_rfl) (fun _ _ h => h) trivial ?_; (repeat (first | ((first | refine wpMixH_pure rfl rfl (fun K hK => ?_) | refine wpMixH_loc rfl rfl (fun K hK => ?_) | refine wpMixH_any rfl rfl (fun K hK => ?_)); go_simp; refine hK _ _ ?_; clear hK K) | (refine wpMixH_skip rfl (by go_simp) (fun K hK => ?_); go_simp; refine hK _ _ ?_; clear hK K) | fail)); refine wpMixH_nil (fun n3 => ?_)
    go_wp2
    all_goals
      go_ret
      exact ⟨ret_int (by rw [HW.out]; ((repeat' split) <;> first | rfl | omega | (have h9 := beq_iff_eq.1 hsp; omega) | (have h9 := beq_eq_false_iff_ne.1 hsp; omega) | (simp_all; done) | (simp_all; omega))), (by first | exact below_drewNs hb3.out _ | exact below_drewNs (below_drewNs hb3.out _) _)⟩
end
end Go.Proofs.Ytloiadhdkgkjkaa
