/- (*events.look).wrong by contract. -/
import Derived.Test.YtloiadhdkgkjkaaEvC
import Derived.Test.YtloiadhdkgkjkaaMixH
import Derived.Outline
namespace Go.Proofs.Ytloiadhdkgkjkaa
open Go.RowKit
set_option maxHeartbeats 4000000
set_option linter.unusedVariables false
set_option linter.unusedSimpArgs false

theorem fmd_bd {e : Ev} (h : fmd e = true) : (0 ≤ e.th ∧ e.th < 8) ∧ 1 ≤ e.kd ∧ e.kd ≤ 12 := by
  unfold fmd at h
  simp only [Bool.and_eq_true, decide_eq_true_eq] at h
  omega
section
variable {B b n : Nat} {w : World} {s : St} {m : Nat → Option Nat} {tv : Value}
set_option maxRecDepth 100000 in
theorem wrong_form (e : Ev) (he : EvWf e) (hf : fmd e = false) :
    Calls Try.prog 73 #[.pointer (some ⟨b, 0, none⟩), evV e] w fun x w' => x = .returned (.int .i64 201) ∧ Below w.heap.size w w' := by
  have C1 := Lib.hid (fun W => formed_b e W he.2.2.2.1.1 he.2.2.2.1.2)
  rw [hf] at C1
  obtain ⟨th, kd, ad, wd, ow, er⟩ := e
  have hb1 := Lib.hid ((Below.refl w.heap.size w).alloc (Nat.le_refl _) (.cells #[.int .i64 th, .int .i64 kd, .int .u64 ad, .int .u64 wd, .bool ow, .int .i64 er] 61))
  unfold evV at *
  dsimp only at *
  clear he hf
  go_enter Try.func73, Try.ntmps73
  go_wp2_with fail
  refine (C1.out _).mono ?_
  rintro _ w2 ⟨rfl, hb2⟩
  have hb3 := Lib.hid (hb1.out.trans (hb2.mono (by simp)))
  clear hb2
  go_wp2
  go_ret
  exact ⟨rfl, hb3.out⟩

set_option maxRecDepth 100000 in
theorem wrong_turn (h : LookW B w b s n m tv) {t k : Nat} {ad wd er : Int} {ow : Bool} (ht : t < 8) (hk : k < 13) (hhow : (s.th t).how < 4) (he : EvWf ⟨t, k, ad, wd, ow, er⟩) (hf : fmd ⟨t, k, ad, wd, ow, er⟩ = true) (h0 : tb (s.th t).how k = 0) :
    Calls Try.prog 73 #[.pointer (some ⟨b, 0, none⟩), evV ⟨t, k, ad, wd, ow, er⟩] w fun x w' => x = .returned (.int .i64 230) ∧ Below w.heap.size w w' := by
  have C1 := Lib.hid (fun W => formed_b ⟨t, k, ad, wd, ow, er⟩ W he.2.2.2.1.1 he.2.2.2.1.2)
  rw [hf] at C1
  have hb1 := Lib.hid ((Below.refl w.heap.size w).alloc (Nat.le_refl _) (.cells #[.int .i64 t, .int .i64 k, .int .u64 ad, .int .u64 wd, .bool ow, .int .i64 er] 61))
  have hB := Lib.hid (h.blk.alloc (.cells #[.int .i64 t, .int .i64 k, .int .u64 ad, .int .u64 wd, .bool ow, .int .i64 er] 61))
  have hE := Lib.hid (Blk.new w 61 #[.int .i64 t, .int .i64 k, .int .u64 ad, .int .u64 wd, .bool ow, .int .i64 er])
  have g0 := gL_tb (s := s) (m := m) (tv := tv) hhow hk
  have g1 := gL_how (s := s) (m := m) (tv := tv) ht
  rw [h0] at g0
  unfold evV at *
  dsimp only at *
  clear he hf
  generalize (s.th t).how = hw at *
  go_enter Try.func73, Try.ntmps73
  go_wp2_with fail
  refine (C1.out _).mono ?_
  rintro _ w2 ⟨rfl, hb2⟩
  have hB2 := hB.out.below hb2 hB.out.lt
  have hE2 := hE.out.below hb2 hE.out.lt
  have hb3 := Lib.hid (hb1.out.trans (hb2.mono (by simp)))
  have c0 := (hB2.fcell (i := 52 + t * 4) (by omega)).trans (congrArg some g1)
  have c1 := (hB2.fcell (i := hw * 13 + k) (by omega)).trans (congrArg some g0)
  have e0 := hE2.cell 0
  have e1 := hE2.cell 1
  simp only [List.getElem?_toArray, List.getElem?_cons_zero, List.getElem?_cons_succ] at e0 e1
  have ht' : (t : Int) < 8 := by omega
  have hw' : (hw : Int) < 4 := by omega
  have hk' : (k : Int) < 13 := by omega
  clear hb2 hB2 hE2 hB hE g0 g1 h0 hb1 h
  go_wp2
  refine wp_region_mixH (fun _ => True) [3, 3, 1, 3, 3, 3, 3] (List.range 7) (by kernel_rfl) (by kernel_rfl) (fun _ _ h => h) trivial ?_
  repeat ((first | refine wpMixH_pure rfl rfl (fun K hK => ?_) | refine wpMixH_loc rfl rfl (fun K hK => ?_) | refine wpMixH_any rfl rfl (fun K hK => ?_)); go_simp; refine hK _ _ ?_; clear hK K)
  refine wpMixH_nil (fun n1 => ?_)
  go_wp2
  refine wp_region_mixH (fun _ => True) [3, 3, 3, 3, 1, 3, 1, 3, 3, 3, 3, 1, 3, 3, 3, 3, 3, 1, 3, 3, 3, 1, 3, 3, 3, 3, 1, 3, 3, 3] (List.range 30) (by kernel_rfl) (by kernel_rfl) (fun _ _ h => h) trivial ?_
  repeat (first | ((first | refine wpMixH_pure rfl rfl (fun K hK => ?_) | refine wpMixH_loc rfl rfl (fun K hK => ?_) | refine wpMixH_any rfl rfl (fun K hK => ?_)); go_simp; refine hK _ _ ?_; clear hK K) | (refine wpMixH_skip rfl (by go_simp) (fun K hK => ?_); go_simp; refine hK _ _ ?_; clear hK K))
  refine wpMixH_nil (fun n2 => ?_)
  go_wp2
  go_ret
  exact ⟨rfl, below_drewNs (below_drewNs hb3.out _) _⟩
end
end Go.Proofs.Ytloiadhdkgkjkaa
