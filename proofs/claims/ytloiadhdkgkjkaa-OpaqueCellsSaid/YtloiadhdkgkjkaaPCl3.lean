/- The document's world: an event joins a history: Put by contract. -/
import Derived.Test.YtloiadhdkgkjkaaPCl2
namespace Go.Proofs.Ytloiadhdkgkjkaa
open Go.RowKit
set_option maxHeartbeats 40000000
set_option linter.unusedVariables false
set_option linter.unusedSimpArgs false
section
variable {B b k : Nat} {w : World} {s : St} {wv : Nat → Value}
set_option maxRecDepth 100000 in
theorem rput_form (h : RefW B w b s wv) (hI : Inv s k)  {t : Int}  {kd ad wd er : Int} {ow : Bool} (he : EvWf ⟨t, kd, ad, wd, ow, er⟩) (hf : fmd ⟨t, kd, ad, wd, ow, er⟩ = false) :
    Calls Try.prog 61 #[.pointer (some ⟨b, 0, none⟩), evV ⟨t, kd, ad, wd, ow, er⟩] w fun x w' => x = .returned (.int .i64 201) ∧ Below B w w' := by
  have C1 := Lib.hid (fun W => rformed_b ⟨t, kd, ad, wd, ow, er⟩ W he.2.2.2.1.1)
  rw [hf] at C1
  have hR1 := Lib.hid (h.alloc (.cells #[.int .i64 t, .int .i64 kd, .int .u64 ad, .int .u64 wd, .bool ow, .int .i64 er] 61))
  have hE1 := Lib.hid (Blk.new w 61 #[.int .i64 t, .int .i64 kd, .int .u64 ad, .int .u64 wd, .bool ow, .int .i64 er])
  have hb1 := Lib.hid ((Below.refl w.heap.size w).alloc (Nat.le_refl _) (.cells #[.int .i64 t, .int .i64 kd, .int .u64 ad, .int .u64 wd, .bool ow, .int .i64 er] 61))
  have hBw : Hid (B ≤ w.heap.size) := Lib.hid (Nat.le_trans h.geb (Nat.le_of_lt h.blk.lt))
  replace hf := Lib.hid hf
  unfold evV at *
  dsimp only at *
  clear h
  replace hI := Lib.hid hI
  replace he := Lib.hid he
  go_enter Try.func61, Try.ntmps61
  go_wp2_with fail
  refine (C1.out _).mono ?_
  rintro _ w2 ⟨rfl, hx2⟩
  have hR2 := Lib.hid (hR1.out.below hx2)
  have hE2 := Lib.hid (hE1.out.below hx2 hE1.out.lt)
  have hb2 := Lib.hid (hb1.out.trans (hx2.mono hb1.out.size))
  clear hx2 hR1 hE1 hb1
  clear C1
  go_wp2
  go_ret
  exact ⟨rfl, hb2.out.mono hBw.out⟩
set_option maxRecDepth 100000 in
theorem rput_turn (h : RefW B w b s wv) (hI : Inv s k)  {t : Nat} (ht : t < 8) {kd ad wd er : Int} {ow : Bool} (he : EvWf ⟨t, kd, ad, wd, ow, er⟩) (hf : fmd ⟨t, kd, ad, wd, ow, er⟩ = true) (htn : tnR (s.th t).how ⟨t, kd, ad, wd, ow, er⟩ = -1) :
    Calls Try.prog 61 #[.pointer (some ⟨b, 0, none⟩), evV ⟨t, kd, ad, wd, ow, er⟩] w fun x w' => x = .returned (.int .i64 230) ∧ Below B w w' := by
  have C1 := Lib.hid (fun W => rformed_b ⟨t, kd, ad, wd, ow, er⟩ W he.2.2.2.1.1)
  rw [hf] at C1
  have CT := Lib.hid (fun W => turn_b (s.th t).how (hI.bd.how t) ⟨t, kd, ad, wd, ow, er⟩ W)
  rw [htn] at CT
  have hR1 := Lib.hid (h.alloc (.cells #[.int .i64 t, .int .i64 kd, .int .u64 ad, .int .u64 wd, .bool ow, .int .i64 er] 61))
  have hE1 := Lib.hid (Blk.new w 61 #[.int .i64 t, .int .i64 kd, .int .u64 ad, .int .u64 wd, .bool ow, .int .i64 er])
  have hb1 := Lib.hid ((Below.refl w.heap.size w).alloc (Nat.le_refl _) (.cells #[.int .i64 t, .int .i64 kd, .int .u64 ad, .int .u64 wd, .bool ow, .int .i64 er] 61))
  have hBw : Hid (B ≤ w.heap.size) := Lib.hid (Nat.le_trans h.geb (Nat.le_of_lt h.blk.lt))
  replace hf := Lib.hid hf
  replace htn := Lib.hid htn
  unfold evV at *
  dsimp only at *
  clear h
  have ht' : (t : Int) < 8 := by omega
  replace hI := Lib.hid hI
  replace he := Lib.hid he
  go_enter Try.func61, Try.ntmps61
  go_wp2_with fail
  refine (C1.out _).mono ?_
  rintro _ w2 ⟨rfl, hx2⟩
  have hR2 := Lib.hid (hR1.out.below hx2)
  have hE2 := Lib.hid (hE1.out.below hx2 hE1.out.lt)
  have hb2 := Lib.hid (hb1.out.trans (hx2.mono hb1.out.size))
  clear hx2 hR1 hE1 hb1
  clear C1
  have x0 := hE2.out.cell 0
  have x1 := hE2.out.cell 1
  have x2 := hE2.out.cell 2
  have x3 := hE2.out.cell 3
  have x4 := hE2.out.cell 4
  have x5 := hE2.out.cell 5
  simp only [List.getElem?_toArray, List.getElem?_cons_zero, List.getElem?_cons_succ] at x0 x1 x2 x3 x4 x5
  have c0 := (hR2.out.blk.fcell (i := t * 3) (by omega)).trans (congrArg some (gR_how ht))
  go_wp2
  refine wp_region_mixH (fun _ => True) [3, 3, 1, 3, 3, 3, 3] (List.range 7) (by kernel_rfl) (by kernel_rfl) (fun _ _ h => h) trivial ?_
  (repeat ((first | refine wpMixH_pure rfl rfl (fun K hK => ?_) | refine wpMixH_loc rfl rfl (fun K hK => ?_) | refine wpMixH_any rfl rfl (fun K hK => ?_)); go_simp; refine hK _ _ ?_; clear hK K))
  refine wpMixH_nil (fun n1 => ?_)
  go_wp2
  refine wp_region_mixH (fun _ => True) [3, 3, 3, 1, 1, 2, 3] (List.range 7) (by kernel_rfl) (by kernel_rfl) (fun _ _ h => h) trivial ?_
  (repeat ((first | refine wpMixH_pure rfl rfl (fun K hK => ?_) | refine wpMixH_loc rfl rfl (fun K hK => ?_) | refine wpMixH_any rfl rfl (fun K hK => ?_)); go_simp; refine hK _ _ ?_; clear hK K))
  refine wpMixH_loud rfl rfl (fun n2 K hK => ?_)
  go_wp2_with fail
  refine (CT.out _).mono ?_
  rintro _ w3 ⟨rfl, hx⟩
  have hx3 : Below w2.heap.size w2 w3 := ⟨hx.os, hx.tape, hx.output, hx.size, hx.block⟩
  clear hx CT x0 x1 x2 x3 x4 x5 c0
  have hR3 := Lib.hid (hR2.out.below hx3)
  have hE3 := Lib.hid (hE2.out.below hx3 hE2.out.lt)
  have hb3 := Lib.hid (hb2.out.trans (hx3.mono hb2.out.size))
  clear hx3 hR2 hE2 hb2
  have x0 := hE3.out.cell 0
  have x1 := hE3.out.cell 1
  have x2 := hE3.out.cell 2
  have x3 := hE3.out.cell 3
  have x4 := hE3.out.cell 4
  have x5 := hE3.out.cell 5
  simp only [List.getElem?_toArray, List.getElem?_cons_zero, List.getElem?_cons_succ] at x0 x1 x2 x3 x4 x5
  have c0 := (hR3.out.blk.fcell (i := t * 3) (by omega)).trans (congrArg some (gR_how ht))
  go_wp2
  refine hK _ _ (fun _ => trivial) ?_; clear hK K
  (repeat ((first | refine wpMixH_pure rfl rfl (fun K hK => ?_) | refine wpMixH_loc rfl rfl (fun K hK => ?_) | refine wpMixH_any rfl rfl (fun K hK => ?_)); go_simp; refine hK _ _ ?_; clear hK K))
  refine wpMixH_nil (fun n3 => ?_)
  go_wp2
  go_ret
  exact ⟨rfl, below_drewNs (hb3.out.mono hBw.out) _⟩
set_option maxRecDepth 100000 in
theorem rput_lock1 (h : RefW B w b s wv) (hI : Inv s k)  {t : Nat} (ht : t < 8) {ad wd er : Int} {ow : Bool} (he : EvWf ⟨t, 1, ad, wd, ow, er⟩) {nx : Nat} (hf : fmd ⟨t, 1, ad, wd, ow, er⟩ = true) (htn : tnR (s.th t).how ⟨t, 1, ad, wd, ow, er⟩ = (nx : Int)) (hlk : lkR s (t : Int) = true) :
    Calls Try.prog 61 #[.pointer (some ⟨b, 0, none⟩), evV ⟨t, 1, ad, wd, ow, er⟩] w fun x w' => x = .returned (.int .i64 231) ∧ Below B w w' := by
  have C1 := Lib.hid (fun W => rformed_b ⟨t, 1, ad, wd, ow, er⟩ W he.2.2.2.1.1)
  rw [hf] at C1
  have CT := Lib.hid (fun W => turn_b (s.th t).how (hI.bd.how t) ⟨t, 1, ad, wd, ow, er⟩ W)
  rw [htn] at CT
  have CL := Lib.hid (fun W (hW : RefW B W b s wv) => rlocked_b hW (t : Int))
  rw [hlk] at CL
  have hR1 := Lib.hid (h.alloc (.cells #[.int .i64 t, .int .i64 1, .int .u64 ad, .int .u64 wd, .bool ow, .int .i64 er] 61))
  have hE1 := Lib.hid (Blk.new w 61 #[.int .i64 t, .int .i64 1, .int .u64 ad, .int .u64 wd, .bool ow, .int .i64 er])
  have hb1 := Lib.hid ((Below.refl w.heap.size w).alloc (Nat.le_refl _) (.cells #[.int .i64 t, .int .i64 1, .int .u64 ad, .int .u64 wd, .bool ow, .int .i64 er] 61))
  have hBw : Hid (B ≤ w.heap.size) := Lib.hid (Nat.le_trans h.geb (Nat.le_of_lt h.blk.lt))
  replace hf := Lib.hid hf
  replace htn := Lib.hid htn
  replace hlk := Lib.hid hlk
  unfold evV at *
  dsimp only at *
  clear h
  have ht' : (t : Int) < 8 := by omega
  go_enter Try.func61, Try.ntmps61
  go_wp2_with fail
  refine (C1.out _).mono ?_
  rintro _ w2 ⟨rfl, hx2⟩
  have hR2 := Lib.hid (hR1.out.below hx2)
  have hE2 := Lib.hid (hE1.out.below hx2 hE1.out.lt)
  have hb2 := Lib.hid (hb1.out.trans (hx2.mono hb1.out.size))
  clear hx2 hR1 hE1 hb1
  clear C1
  have x0 := hE2.out.cell 0
  have x1 := hE2.out.cell 1
  have x2 := hE2.out.cell 2
  have x3 := hE2.out.cell 3
  have x4 := hE2.out.cell 4
  have x5 := hE2.out.cell 5
  simp only [List.getElem?_toArray, List.getElem?_cons_zero, List.getElem?_cons_succ] at x0 x1 x2 x3 x4 x5
  have c0 := (hR2.out.blk.fcell (i := t * 3) (by omega)).trans (congrArg some (gR_how ht))
  go_wp2
  refine wp_region_mixH (fun _ => True) [3, 3, 1, 3, 3, 3, 3] (List.range 7) (by kernel_rfl) (by kernel_rfl) (fun _ _ h => h) trivial ?_
  (repeat ((first | refine wpMixH_pure rfl rfl (fun K hK => ?_) | refine wpMixH_loc rfl rfl (fun K hK => ?_) | refine wpMixH_any rfl rfl (fun K hK => ?_)); go_simp; refine hK _ _ ?_; clear hK K))
  refine wpMixH_nil (fun n1 => ?_)
  go_wp2
  refine wp_region_mixH (fun _ => True) [3, 3, 3, 1, 1, 2, 3] (List.range 7) (by kernel_rfl) (by kernel_rfl) (fun _ _ h => h) trivial ?_
  (repeat ((first | refine wpMixH_pure rfl rfl (fun K hK => ?_) | refine wpMixH_loc rfl rfl (fun K hK => ?_) | refine wpMixH_any rfl rfl (fun K hK => ?_)); go_simp; refine hK _ _ ?_; clear hK K))
  refine wpMixH_loud rfl rfl (fun n2 K hK => ?_)
  go_wp2_with fail
  refine (CT.out _).mono ?_
  rintro _ w3 ⟨rfl, hx⟩
  have hx3 : Below w2.heap.size w2 w3 := ⟨hx.os, hx.tape, hx.output, hx.size, hx.block⟩
  clear hx CT x0 x1 x2 x3 x4 x5 c0
  have hR3 := Lib.hid (hR2.out.below hx3)
  have hE3 := Lib.hid (hE2.out.below hx3 hE2.out.lt)
  have hb3 := Lib.hid (hb2.out.trans (hx3.mono hb2.out.size))
  clear hx3 hR2 hE2 hb2
  have x0 := hE3.out.cell 0
  have x1 := hE3.out.cell 1
  have x2 := hE3.out.cell 2
  have x3 := hE3.out.cell 3
  have x4 := hE3.out.cell 4
  have x5 := hE3.out.cell 5
  simp only [List.getElem?_toArray, List.getElem?_cons_zero, List.getElem?_cons_succ] at x0 x1 x2 x3 x4 x5
  have c0 := (hR3.out.blk.fcell (i := t * 3) (by omega)).trans (congrArg some (gR_how ht))
  go_wp2
  refine hK _ _ (fun _ => trivial) ?_; clear hK K
  (repeat ((first | refine wpMixH_pure rfl rfl (fun K hK => ?_) | refine wpMixH_loc rfl rfl (fun K hK => ?_) | refine wpMixH_any rfl rfl (fun K hK => ?_)); go_simp; refine hK _ _ ?_; clear hK K))
  refine wpMixH_nil (fun n3 => ?_)
  go_wp2_with fail
  refine (CL.out _ (hR3.out.drewN n3)).mono ?_
  rintro _ _ ⟨rfl, rfl⟩
  clear CL
  go_wp2
  go_ret
  exact ⟨rfl, below_drewNs (hb3.out.mono hBw.out) _⟩
set_option maxRecDepth 100000 in
theorem rput_num1 (h : RefW B w b s wv) (hI : Inv s k) (hkk : k ≤ 1152921504606846976) (hk16 : (k + 1) * 16 ≤ 140737488355328) (hwl : ∀ t, (s.th t).ws.length ≤ k) {t : Nat} (ht : t < 8) {ad wd er : Int} {ow : Bool} (he : EvWf ⟨t, 1, ad, wd, ow, er⟩) {nx : Nat} (hf : fmd ⟨t, 1, ad, wd, ow, er⟩ = true) (htn : tnR (s.th t).how ⟨t, 1, ad, wd, ow, er⟩ = (nx : Int)) (hlk : lkR s (t : Int) = false) (hnm : wordOk (s.th t) s.num ⟨t, 1, ad, wd, ow, er⟩ = false) :
    Calls Try.prog 61 #[.pointer (some ⟨b, 0, none⟩), evV ⟨t, 1, ad, wd, ow, er⟩] w fun x w' => x = .returned (.int .i64 232) ∧ Below B w w' := by
  have C1 := Lib.hid (fun W => rformed_b ⟨t, 1, ad, wd, ow, er⟩ W he.2.2.2.1.1)
  rw [hf] at C1
  have CT := Lib.hid (fun W => turn_b (s.th t).how (hI.bd.how t) ⟨t, 1, ad, wd, ow, er⟩ W)
  rw [htn] at CT
  have CL := Lib.hid (fun W (hW : RefW B W b s wv) => rlocked_b hW (t : Int))
  rw [hlk] at CL
  have CN := Lib.hid (fun W (hW : RefW B W b s wv) => rnumber_b hW ht ⟨t, 1, ad, wd, ow, er⟩ hI.bd.num.1 (Int.le_trans hI.bd.num.2 (by omega)) (hI.bd.sn t).1 (hI.bd.sn t).2)
  rw [hnm] at CN
  have hR1 := Lib.hid (h.alloc (.cells #[.int .i64 t, .int .i64 1, .int .u64 ad, .int .u64 wd, .bool ow, .int .i64 er] 61))
  have hE1 := Lib.hid (Blk.new w 61 #[.int .i64 t, .int .i64 1, .int .u64 ad, .int .u64 wd, .bool ow, .int .i64 er])
  have hb1 := Lib.hid ((Below.refl w.heap.size w).alloc (Nat.le_refl _) (.cells #[.int .i64 t, .int .i64 1, .int .u64 ad, .int .u64 wd, .bool ow, .int .i64 er] 61))
  have hBw : Hid (B ≤ w.heap.size) := Lib.hid (Nat.le_trans h.geb (Nat.le_of_lt h.blk.lt))
  replace hf := Lib.hid hf
  replace htn := Lib.hid htn
  replace hlk := Lib.hid hlk
  replace hnm := Lib.hid hnm
  unfold evV at *
  dsimp only at *
  clear h
  have ht' : (t : Int) < 8 := by omega
  go_enter Try.func61, Try.ntmps61
  go_wp2_with fail
  refine (C1.out _).mono ?_
  rintro _ w2 ⟨rfl, hx2⟩
  have hR2 := Lib.hid (hR1.out.below hx2)
  have hE2 := Lib.hid (hE1.out.below hx2 hE1.out.lt)
  have hb2 := Lib.hid (hb1.out.trans (hx2.mono hb1.out.size))
  clear hx2 hR1 hE1 hb1
  clear C1
  have x0 := hE2.out.cell 0
  have x1 := hE2.out.cell 1
  have x2 := hE2.out.cell 2
  have x3 := hE2.out.cell 3
  have x4 := hE2.out.cell 4
  have x5 := hE2.out.cell 5
  simp only [List.getElem?_toArray, List.getElem?_cons_zero, List.getElem?_cons_succ] at x0 x1 x2 x3 x4 x5
  have c0 := (hR2.out.blk.fcell (i := t * 3) (by omega)).trans (congrArg some (gR_how ht))
  go_wp2
  refine wp_region_mixH (fun _ => True) [3, 3, 1, 3, 3, 3, 3] (List.range 7) (by kernel_rfl) (by kernel_rfl) (fun _ _ h => h) trivial ?_
  (repeat ((first | refine wpMixH_pure rfl rfl (fun K hK => ?_) | refine wpMixH_loc rfl rfl (fun K hK => ?_) | refine wpMixH_any rfl rfl (fun K hK => ?_)); go_simp; refine hK _ _ ?_; clear hK K))
  refine wpMixH_nil (fun n1 => ?_)
  go_wp2
  refine wp_region_mixH (fun _ => True) [3, 3, 3, 1, 1, 2, 3] (List.range 7) (by kernel_rfl) (by kernel_rfl) (fun _ _ h => h) trivial ?_
  (repeat ((first | refine wpMixH_pure rfl rfl (fun K hK => ?_) | refine wpMixH_loc rfl rfl (fun K hK => ?_) | refine wpMixH_any rfl rfl (fun K hK => ?_)); go_simp; refine hK _ _ ?_; clear hK K))
  refine wpMixH_loud rfl rfl (fun n2 K hK => ?_)
  go_wp2_with fail
  refine (CT.out _).mono ?_
  rintro _ w3 ⟨rfl, hx⟩
  have hx3 : Below w2.heap.size w2 w3 := ⟨hx.os, hx.tape, hx.output, hx.size, hx.block⟩
  clear hx CT x0 x1 x2 x3 x4 x5 c0
  have hR3 := Lib.hid (hR2.out.below hx3)
  have hE3 := Lib.hid (hE2.out.below hx3 hE2.out.lt)
  have hb3 := Lib.hid (hb2.out.trans (hx3.mono hb2.out.size))
  clear hx3 hR2 hE2 hb2
  have x0 := hE3.out.cell 0
  have x1 := hE3.out.cell 1
  have x2 := hE3.out.cell 2
  have x3 := hE3.out.cell 3
  have x4 := hE3.out.cell 4
  have x5 := hE3.out.cell 5
  simp only [List.getElem?_toArray, List.getElem?_cons_zero, List.getElem?_cons_succ] at x0 x1 x2 x3 x4 x5
  have c0 := (hR3.out.blk.fcell (i := t * 3) (by omega)).trans (congrArg some (gR_how ht))
  go_wp2
  refine hK _ _ (fun _ => trivial) ?_; clear hK K
  (repeat ((first | refine wpMixH_pure rfl rfl (fun K hK => ?_) | refine wpMixH_loc rfl rfl (fun K hK => ?_) | refine wpMixH_any rfl rfl (fun K hK => ?_)); go_simp; refine hK _ _ ?_; clear hK K))
  refine wpMixH_nil (fun n3 => ?_)
  go_wp2_with fail
  refine (CL.out _ (hR3.out.drewN n3)).mono ?_
  rintro _ _ ⟨rfl, rfl⟩
  clear CL
  go_wp2_with fail
  refine (CN.out _ (hR3.out.drewN n3)).mono ?_
  rintro _ w4 ⟨rfl, hx⟩
  have hx4 : Below w3.heap.size w3 w4 := ⟨hx.os, hx.tape, hx.output, hx.size, hx.block⟩
  clear hx CN x0 x1 x2 x3 x4 x5 c0
  have hR4 := Lib.hid (hR3.out.below hx4)
  have hE4 := Lib.hid (hE3.out.below hx4 hE3.out.lt)
  have hb4 := Lib.hid (hb3.out.trans (hx4.mono hb3.out.size))
  clear hx4 hR3 hE3 hb3
  have x0 := hE4.out.cell 0
  have x1 := hE4.out.cell 1
  have x2 := hE4.out.cell 2
  have x3 := hE4.out.cell 3
  have x4 := hE4.out.cell 4
  have x5 := hE4.out.cell 5
  simp only [List.getElem?_toArray, List.getElem?_cons_zero, List.getElem?_cons_succ] at x0 x1 x2 x3 x4 x5
  have c0 := (hR4.out.blk.fcell (i := t * 3) (by omega)).trans (congrArg some (gR_how ht))
  go_wp2
  go_ret
  exact ⟨rfl, hb4.out.mono hBw.out⟩
set_option maxRecDepth 100000 in
theorem rput_lock4 (h : RefW B w b s wv) (hI : Inv s k)  {t : Nat} (ht : t < 8) {ad wd er : Int} {ow : Bool} (he : EvWf ⟨t, 4, ad, wd, ow, er⟩) {nx : Nat} (hf : fmd ⟨t, 4, ad, wd, ow, er⟩ = true) (htn : tnR (s.th t).how ⟨t, 4, ad, wd, ow, er⟩ = (nx : Int)) (hlk : lkR s (t : Int) = true) :
    Calls Try.prog 61 #[.pointer (some ⟨b, 0, none⟩), evV ⟨t, 4, ad, wd, ow, er⟩] w fun x w' => x = .returned (.int .i64 231) ∧ Below B w w' := by
  have C1 := Lib.hid (fun W => rformed_b ⟨t, 4, ad, wd, ow, er⟩ W he.2.2.2.1.1)
  rw [hf] at C1
  have CT := Lib.hid (fun W => turn_b (s.th t).how (hI.bd.how t) ⟨t, 4, ad, wd, ow, er⟩ W)
  rw [htn] at CT
  have CL := Lib.hid (fun W (hW : RefW B W b s wv) => rlocked_b hW (t : Int))
  rw [hlk] at CL
  have hR1 := Lib.hid (h.alloc (.cells #[.int .i64 t, .int .i64 4, .int .u64 ad, .int .u64 wd, .bool ow, .int .i64 er] 61))
  have hE1 := Lib.hid (Blk.new w 61 #[.int .i64 t, .int .i64 4, .int .u64 ad, .int .u64 wd, .bool ow, .int .i64 er])
  have hb1 := Lib.hid ((Below.refl w.heap.size w).alloc (Nat.le_refl _) (.cells #[.int .i64 t, .int .i64 4, .int .u64 ad, .int .u64 wd, .bool ow, .int .i64 er] 61))
  have hBw : Hid (B ≤ w.heap.size) := Lib.hid (Nat.le_trans h.geb (Nat.le_of_lt h.blk.lt))
  replace hf := Lib.hid hf
  replace htn := Lib.hid htn
  replace hlk := Lib.hid hlk
  unfold evV at *
  dsimp only at *
  clear h
  have ht' : (t : Int) < 8 := by omega
  go_enter Try.func61, Try.ntmps61
  go_wp2_with fail
  refine (C1.out _).mono ?_
  rintro _ w2 ⟨rfl, hx2⟩
  have hR2 := Lib.hid (hR1.out.below hx2)
  have hE2 := Lib.hid (hE1.out.below hx2 hE1.out.lt)
  have hb2 := Lib.hid (hb1.out.trans (hx2.mono hb1.out.size))
  clear hx2 hR1 hE1 hb1
  clear C1
  have x0 := hE2.out.cell 0
  have x1 := hE2.out.cell 1
  have x2 := hE2.out.cell 2
  have x3 := hE2.out.cell 3
  have x4 := hE2.out.cell 4
  have x5 := hE2.out.cell 5
  simp only [List.getElem?_toArray, List.getElem?_cons_zero, List.getElem?_cons_succ] at x0 x1 x2 x3 x4 x5
  have c0 := (hR2.out.blk.fcell (i := t * 3) (by omega)).trans (congrArg some (gR_how ht))
  go_wp2
  refine wp_region_mixH (fun _ => True) [3, 3, 1, 3, 3, 3, 3] (List.range 7) (by kernel_rfl) (by kernel_rfl) (fun _ _ h => h) trivial ?_
  (repeat ((first | refine wpMixH_pure rfl rfl (fun K hK => ?_) | refine wpMixH_loc rfl rfl (fun K hK => ?_) | refine wpMixH_any rfl rfl (fun K hK => ?_)); go_simp; refine hK _ _ ?_; clear hK K))
  refine wpMixH_nil (fun n1 => ?_)
  go_wp2
  refine wp_region_mixH (fun _ => True) [3, 3, 3, 1, 1, 2, 3] (List.range 7) (by kernel_rfl) (by kernel_rfl) (fun _ _ h => h) trivial ?_
  (repeat ((first | refine wpMixH_pure rfl rfl (fun K hK => ?_) | refine wpMixH_loc rfl rfl (fun K hK => ?_) | refine wpMixH_any rfl rfl (fun K hK => ?_)); go_simp; refine hK _ _ ?_; clear hK K))
  refine wpMixH_loud rfl rfl (fun n2 K hK => ?_)
  go_wp2_with fail
  refine (CT.out _).mono ?_
  rintro _ w3 ⟨rfl, hx⟩
  have hx3 : Below w2.heap.size w2 w3 := ⟨hx.os, hx.tape, hx.output, hx.size, hx.block⟩
  clear hx CT x0 x1 x2 x3 x4 x5 c0
  have hR3 := Lib.hid (hR2.out.below hx3)
  have hE3 := Lib.hid (hE2.out.below hx3 hE2.out.lt)
  have hb3 := Lib.hid (hb2.out.trans (hx3.mono hb2.out.size))
  clear hx3 hR2 hE2 hb2
  have x0 := hE3.out.cell 0
  have x1 := hE3.out.cell 1
  have x2 := hE3.out.cell 2
  have x3 := hE3.out.cell 3
  have x4 := hE3.out.cell 4
  have x5 := hE3.out.cell 5
  simp only [List.getElem?_toArray, List.getElem?_cons_zero, List.getElem?_cons_succ] at x0 x1 x2 x3 x4 x5
  have c0 := (hR3.out.blk.fcell (i := t * 3) (by omega)).trans (congrArg some (gR_how ht))
  go_wp2
  refine hK _ _ (fun _ => trivial) ?_; clear hK K
  (repeat ((first | refine wpMixH_pure rfl rfl (fun K hK => ?_) | refine wpMixH_loc rfl rfl (fun K hK => ?_) | refine wpMixH_any rfl rfl (fun K hK => ?_)); go_simp; refine hK _ _ ?_; clear hK K))
  refine wpMixH_nil (fun n3 => ?_)
  go_wp2_with fail
  refine (CL.out _ (hR3.out.drewN n3)).mono ?_
  rintro _ _ ⟨rfl, rfl⟩
  clear CL
  go_wp2
  go_ret
  exact ⟨rfl, below_drewNs (hb3.out.mono hBw.out) _⟩
set_option maxRecDepth 100000 in
theorem rput_num4 (h : RefW B w b s wv) (hI : Inv s k) (hkk : k ≤ 1152921504606846976) (hk16 : (k + 1) * 16 ≤ 140737488355328) (hwl : ∀ t, (s.th t).ws.length ≤ k) {t : Nat} (ht : t < 8) {ad wd er : Int} {ow : Bool} (he : EvWf ⟨t, 4, ad, wd, ow, er⟩) {nx : Nat} (hf : fmd ⟨t, 4, ad, wd, ow, er⟩ = true) (htn : tnR (s.th t).how ⟨t, 4, ad, wd, ow, er⟩ = (nx : Int)) (hlk : lkR s (t : Int) = false) (hnm : wordOk (s.th t) s.num ⟨t, 4, ad, wd, ow, er⟩ = false) :
    Calls Try.prog 61 #[.pointer (some ⟨b, 0, none⟩), evV ⟨t, 4, ad, wd, ow, er⟩] w fun x w' => x = .returned (.int .i64 232) ∧ Below B w w' := by
  have C1 := Lib.hid (fun W => rformed_b ⟨t, 4, ad, wd, ow, er⟩ W he.2.2.2.1.1)
  rw [hf] at C1
  have CT := Lib.hid (fun W => turn_b (s.th t).how (hI.bd.how t) ⟨t, 4, ad, wd, ow, er⟩ W)
  rw [htn] at CT
  have CL := Lib.hid (fun W (hW : RefW B W b s wv) => rlocked_b hW (t : Int))
  rw [hlk] at CL
  have CN := Lib.hid (fun W (hW : RefW B W b s wv) => rnumber_b hW ht ⟨t, 4, ad, wd, ow, er⟩ hI.bd.num.1 (Int.le_trans hI.bd.num.2 (by omega)) (hI.bd.sn t).1 (hI.bd.sn t).2)
  rw [hnm] at CN
  have hR1 := Lib.hid (h.alloc (.cells #[.int .i64 t, .int .i64 4, .int .u64 ad, .int .u64 wd, .bool ow, .int .i64 er] 61))
  have hE1 := Lib.hid (Blk.new w 61 #[.int .i64 t, .int .i64 4, .int .u64 ad, .int .u64 wd, .bool ow, .int .i64 er])
  have hb1 := Lib.hid ((Below.refl w.heap.size w).alloc (Nat.le_refl _) (.cells #[.int .i64 t, .int .i64 4, .int .u64 ad, .int .u64 wd, .bool ow, .int .i64 er] 61))
  have hBw : Hid (B ≤ w.heap.size) := Lib.hid (Nat.le_trans h.geb (Nat.le_of_lt h.blk.lt))
  replace hf := Lib.hid hf
  replace htn := Lib.hid htn
  replace hlk := Lib.hid hlk
  replace hnm := Lib.hid hnm
  unfold evV at *
  dsimp only at *
  clear h
  have ht' : (t : Int) < 8 := by omega
  go_enter Try.func61, Try.ntmps61
  go_wp2_with fail
  refine (C1.out _).mono ?_
  rintro _ w2 ⟨rfl, hx2⟩
  have hR2 := Lib.hid (hR1.out.below hx2)
  have hE2 := Lib.hid (hE1.out.below hx2 hE1.out.lt)
  have hb2 := Lib.hid (hb1.out.trans (hx2.mono hb1.out.size))
  clear hx2 hR1 hE1 hb1
  clear C1
  have x0 := hE2.out.cell 0
  have x1 := hE2.out.cell 1
  have x2 := hE2.out.cell 2
  have x3 := hE2.out.cell 3
  have x4 := hE2.out.cell 4
  have x5 := hE2.out.cell 5
  simp only [List.getElem?_toArray, List.getElem?_cons_zero, List.getElem?_cons_succ] at x0 x1 x2 x3 x4 x5
  have c0 := (hR2.out.blk.fcell (i := t * 3) (by omega)).trans (congrArg some (gR_how ht))
  go_wp2
  refine wp_region_mixH (fun _ => True) [3, 3, 1, 3, 3, 3, 3] (List.range 7) (by kernel_rfl) (by kernel_rfl) (fun _ _ h => h) trivial ?_
  (repeat ((first | refine wpMixH_pure rfl rfl (fun K hK => ?_) | refine wpMixH_loc rfl rfl (fun K hK => ?_) | refine wpMixH_any rfl rfl (fun K hK => ?_)); go_simp; refine hK _ _ ?_; clear hK K))
  refine wpMixH_nil (fun n1 => ?_)
  go_wp2
  refine wp_region_mixH (fun _ => True) [3, 3, 3, 1, 1, 2, 3] (List.range 7) (by kernel_rfl) (by kernel_rfl) (fun _ _ h => h) trivial ?_
  (repeat ((first | refine wpMixH_pure rfl rfl (fun K hK => ?_) | refine wpMixH_loc rfl rfl (fun K hK => ?_) | refine wpMixH_any rfl rfl (fun K hK => ?_)); go_simp; refine hK _ _ ?_; clear hK K))
  refine wpMixH_loud rfl rfl (fun n2 K hK => ?_)
  go_wp2_with fail
  refine (CT.out _).mono ?_
  rintro _ w3 ⟨rfl, hx⟩
  have hx3 : Below w2.heap.size w2 w3 := ⟨hx.os, hx.tape, hx.output, hx.size, hx.block⟩
  clear hx CT x0 x1 x2 x3 x4 x5 c0
  have hR3 := Lib.hid (hR2.out.below hx3)
  have hE3 := Lib.hid (hE2.out.below hx3 hE2.out.lt)
  have hb3 := Lib.hid (hb2.out.trans (hx3.mono hb2.out.size))
  clear hx3 hR2 hE2 hb2
  have x0 := hE3.out.cell 0
  have x1 := hE3.out.cell 1
  have x2 := hE3.out.cell 2
  have x3 := hE3.out.cell 3
  have x4 := hE3.out.cell 4
  have x5 := hE3.out.cell 5
  simp only [List.getElem?_toArray, List.getElem?_cons_zero, List.getElem?_cons_succ] at x0 x1 x2 x3 x4 x5
  have c0 := (hR3.out.blk.fcell (i := t * 3) (by omega)).trans (congrArg some (gR_how ht))
  go_wp2
  refine hK _ _ (fun _ => trivial) ?_; clear hK K
  (repeat ((first | refine wpMixH_pure rfl rfl (fun K hK => ?_) | refine wpMixH_loc rfl rfl (fun K hK => ?_) | refine wpMixH_any rfl rfl (fun K hK => ?_)); go_simp; refine hK _ _ ?_; clear hK K))
  refine wpMixH_nil (fun n3 => ?_)
  go_wp2_with fail
  refine (CL.out _ (hR3.out.drewN n3)).mono ?_
  rintro _ _ ⟨rfl, rfl⟩
  clear CL
  go_wp2_with fail
  refine (CN.out _ (hR3.out.drewN n3)).mono ?_
  rintro _ w4 ⟨rfl, hx⟩
  have hx4 : Below w3.heap.size w3 w4 := ⟨hx.os, hx.tape, hx.output, hx.size, hx.block⟩
  clear hx CN x0 x1 x2 x3 x4 x5 c0
  have hR4 := Lib.hid (hR3.out.below hx4)
  have hE4 := Lib.hid (hE3.out.below hx4 hE3.out.lt)
  have hb4 := Lib.hid (hb3.out.trans (hx4.mono hb3.out.size))
  clear hx4 hR3 hE3 hb3
  have x0 := hE4.out.cell 0
  have x1 := hE4.out.cell 1
  have x2 := hE4.out.cell 2
  have x3 := hE4.out.cell 3
  have x4 := hE4.out.cell 4
  have x5 := hE4.out.cell 5
  simp only [List.getElem?_toArray, List.getElem?_cons_zero, List.getElem?_cons_succ] at x0 x1 x2 x3 x4 x5
  have c0 := (hR4.out.blk.fcell (i := t * 3) (by omega)).trans (congrArg some (gR_how ht))
  go_wp2
  go_ret
  exact ⟨rfl, hb4.out.mono hBw.out⟩
set_option maxRecDepth 100000 in
theorem rput_lock5 (h : RefW B w b s wv) (hI : Inv s k)  {t : Nat} (ht : t < 8) {ad wd er : Int} {ow : Bool} (he : EvWf ⟨t, 5, ad, wd, ow, er⟩) {nx : Nat} (hf : fmd ⟨t, 5, ad, wd, ow, er⟩ = true) (htn : tnR (s.th t).how ⟨t, 5, ad, wd, ow, er⟩ = (nx : Int)) (hlk : lkR s (t : Int) = true) :
    Calls Try.prog 61 #[.pointer (some ⟨b, 0, none⟩), evV ⟨t, 5, ad, wd, ow, er⟩] w fun x w' => x = .returned (.int .i64 231) ∧ Below B w w' := by
  have C1 := Lib.hid (fun W => rformed_b ⟨t, 5, ad, wd, ow, er⟩ W he.2.2.2.1.1)
  rw [hf] at C1
  have CT := Lib.hid (fun W => turn_b (s.th t).how (hI.bd.how t) ⟨t, 5, ad, wd, ow, er⟩ W)
  rw [htn] at CT
  have CL := Lib.hid (fun W (hW : RefW B W b s wv) => rlocked_b hW (t : Int))
  rw [hlk] at CL
  have hR1 := Lib.hid (h.alloc (.cells #[.int .i64 t, .int .i64 5, .int .u64 ad, .int .u64 wd, .bool ow, .int .i64 er] 61))
  have hE1 := Lib.hid (Blk.new w 61 #[.int .i64 t, .int .i64 5, .int .u64 ad, .int .u64 wd, .bool ow, .int .i64 er])
  have hb1 := Lib.hid ((Below.refl w.heap.size w).alloc (Nat.le_refl _) (.cells #[.int .i64 t, .int .i64 5, .int .u64 ad, .int .u64 wd, .bool ow, .int .i64 er] 61))
  have hBw : Hid (B ≤ w.heap.size) := Lib.hid (Nat.le_trans h.geb (Nat.le_of_lt h.blk.lt))
  replace hf := Lib.hid hf
  replace htn := Lib.hid htn
  replace hlk := Lib.hid hlk
  unfold evV at *
  dsimp only at *
  clear h
  have ht' : (t : Int) < 8 := by omega
  go_enter Try.func61, Try.ntmps61
  go_wp2_with fail
  refine (C1.out _).mono ?_
  rintro _ w2 ⟨rfl, hx2⟩
  have hR2 := Lib.hid (hR1.out.below hx2)
  have hE2 := Lib.hid (hE1.out.below hx2 hE1.out.lt)
  have hb2 := Lib.hid (hb1.out.trans (hx2.mono hb1.out.size))
  clear hx2 hR1 hE1 hb1
  clear C1
  have x0 := hE2.out.cell 0
  have x1 := hE2.out.cell 1
  have x2 := hE2.out.cell 2
  have x3 := hE2.out.cell 3
  have x4 := hE2.out.cell 4
  have x5 := hE2.out.cell 5
  simp only [List.getElem?_toArray, List.getElem?_cons_zero, List.getElem?_cons_succ] at x0 x1 x2 x3 x4 x5
  have c0 := (hR2.out.blk.fcell (i := t * 3) (by omega)).trans (congrArg some (gR_how ht))
  go_wp2
  refine wp_region_mixH (fun _ => True) [3, 3, 1, 3, 3, 3, 3] (List.range 7) (by kernel_rfl) (by kernel_rfl) (fun _ _ h => h) trivial ?_
  (repeat ((first | refine wpMixH_pure rfl rfl (fun K hK => ?_) | refine wpMixH_loc rfl rfl (fun K hK => ?_) | refine wpMixH_any rfl rfl (fun K hK => ?_)); go_simp; refine hK _ _ ?_; clear hK K))
  refine wpMixH_nil (fun n1 => ?_)
  go_wp2
  refine wp_region_mixH (fun _ => True) [3, 3, 3, 1, 1, 2, 3] (List.range 7) (by kernel_rfl) (by kernel_rfl) (fun _ _ h => h) trivial ?_
  (repeat ((first | refine wpMixH_pure rfl rfl (fun K hK => ?_) | refine wpMixH_loc rfl rfl (fun K hK => ?_) | refine wpMixH_any rfl rfl (fun K hK => ?_)); go_simp; refine hK _ _ ?_; clear hK K))
  refine wpMixH_loud rfl rfl (fun n2 K hK => ?_)
  go_wp2_with fail
  refine (CT.out _).mono ?_
  rintro _ w3 ⟨rfl, hx⟩
  have hx3 : Below w2.heap.size w2 w3 := ⟨hx.os, hx.tape, hx.output, hx.size, hx.block⟩
  clear hx CT x0 x1 x2 x3 x4 x5 c0
  have hR3 := Lib.hid (hR2.out.below hx3)
  have hE3 := Lib.hid (hE2.out.below hx3 hE2.out.lt)
  have hb3 := Lib.hid (hb2.out.trans (hx3.mono hb2.out.size))
  clear hx3 hR2 hE2 hb2
  have x0 := hE3.out.cell 0
  have x1 := hE3.out.cell 1
  have x2 := hE3.out.cell 2
  have x3 := hE3.out.cell 3
  have x4 := hE3.out.cell 4
  have x5 := hE3.out.cell 5
  simp only [List.getElem?_toArray, List.getElem?_cons_zero, List.getElem?_cons_succ] at x0 x1 x2 x3 x4 x5
  have c0 := (hR3.out.blk.fcell (i := t * 3) (by omega)).trans (congrArg some (gR_how ht))
  go_wp2
  refine hK _ _ (fun _ => trivial) ?_; clear hK K
  (repeat ((first | refine wpMixH_pure rfl rfl (fun K hK => ?_) | refine wpMixH_loc rfl rfl (fun K hK => ?_) | refine wpMixH_any rfl rfl (fun K hK => ?_)); go_simp; refine hK _ _ ?_; clear hK K))
  refine wpMixH_nil (fun n3 => ?_)
  go_wp2_with fail
  refine (CL.out _ (hR3.out.drewN n3)).mono ?_
  rintro _ _ ⟨rfl, rfl⟩
  clear CL
  go_wp2
  go_ret
  exact ⟨rfl, below_drewNs (hb3.out.mono hBw.out) _⟩
set_option maxRecDepth 100000 in
theorem rput_num5 (h : RefW B w b s wv) (hI : Inv s k) (hkk : k ≤ 1152921504606846976) (hk16 : (k + 1) * 16 ≤ 140737488355328) (hwl : ∀ t, (s.th t).ws.length ≤ k) {t : Nat} (ht : t < 8) {ad wd er : Int} {ow : Bool} (he : EvWf ⟨t, 5, ad, wd, ow, er⟩) {nx : Nat} (hf : fmd ⟨t, 5, ad, wd, ow, er⟩ = true) (htn : tnR (s.th t).how ⟨t, 5, ad, wd, ow, er⟩ = (nx : Int)) (hlk : lkR s (t : Int) = false) (hnm : wordOk (s.th t) s.num ⟨t, 5, ad, wd, ow, er⟩ = false) :
    Calls Try.prog 61 #[.pointer (some ⟨b, 0, none⟩), evV ⟨t, 5, ad, wd, ow, er⟩] w fun x w' => x = .returned (.int .i64 232) ∧ Below B w w' := by
  have C1 := Lib.hid (fun W => rformed_b ⟨t, 5, ad, wd, ow, er⟩ W he.2.2.2.1.1)
  rw [hf] at C1
  have CT := Lib.hid (fun W => turn_b (s.th t).how (hI.bd.how t) ⟨t, 5, ad, wd, ow, er⟩ W)
  rw [htn] at CT
  have CL := Lib.hid (fun W (hW : RefW B W b s wv) => rlocked_b hW (t : Int))
  rw [hlk] at CL
  have CN := Lib.hid (fun W (hW : RefW B W b s wv) => rnumber_b hW ht ⟨t, 5, ad, wd, ow, er⟩ hI.bd.num.1 (Int.le_trans hI.bd.num.2 (by omega)) (hI.bd.sn t).1 (hI.bd.sn t).2)
  rw [hnm] at CN
  have hR1 := Lib.hid (h.alloc (.cells #[.int .i64 t, .int .i64 5, .int .u64 ad, .int .u64 wd, .bool ow, .int .i64 er] 61))
  have hE1 := Lib.hid (Blk.new w 61 #[.int .i64 t, .int .i64 5, .int .u64 ad, .int .u64 wd, .bool ow, .int .i64 er])
  have hb1 := Lib.hid ((Below.refl w.heap.size w).alloc (Nat.le_refl _) (.cells #[.int .i64 t, .int .i64 5, .int .u64 ad, .int .u64 wd, .bool ow, .int .i64 er] 61))
  have hBw : Hid (B ≤ w.heap.size) := Lib.hid (Nat.le_trans h.geb (Nat.le_of_lt h.blk.lt))
  replace hf := Lib.hid hf
  replace htn := Lib.hid htn
  replace hlk := Lib.hid hlk
  replace hnm := Lib.hid hnm
  unfold evV at *
  dsimp only at *
  clear h
  have ht' : (t : Int) < 8 := by omega
  go_enter Try.func61, Try.ntmps61
  go_wp2_with fail
  refine (C1.out _).mono ?_
  rintro _ w2 ⟨rfl, hx2⟩
  have hR2 := Lib.hid (hR1.out.below hx2)
  have hE2 := Lib.hid (hE1.out.below hx2 hE1.out.lt)
  have hb2 := Lib.hid (hb1.out.trans (hx2.mono hb1.out.size))
  clear hx2 hR1 hE1 hb1
  clear C1
  have x0 := hE2.out.cell 0
  have x1 := hE2.out.cell 1
  have x2 := hE2.out.cell 2
  have x3 := hE2.out.cell 3
  have x4 := hE2.out.cell 4
  have x5 := hE2.out.cell 5
  simp only [List.getElem?_toArray, List.getElem?_cons_zero, List.getElem?_cons_succ] at x0 x1 x2 x3 x4 x5
  have c0 := (hR2.out.blk.fcell (i := t * 3) (by omega)).trans (congrArg some (gR_how ht))
  go_wp2
  refine wp_region_mixH (fun _ => True) [3, 3, 1, 3, 3, 3, 3] (List.range 7) (by kernel_rfl) (by kernel_rfl) (fun _ _ h => h) trivial ?_
  (repeat ((first | refine wpMixH_pure rfl rfl (fun K hK => ?_) | refine wpMixH_loc rfl rfl (fun K hK => ?_) | refine wpMixH_any rfl rfl (fun K hK => ?_)); go_simp; refine hK _ _ ?_; clear hK K))
  refine wpMixH_nil (fun n1 => ?_)
  go_wp2
  refine wp_region_mixH (fun _ => True) [3, 3, 3, 1, 1, 2, 3] (List.range 7) (by kernel_rfl) (by kernel_rfl) (fun _ _ h => h) trivial ?_
  (repeat ((first | refine wpMixH_pure rfl rfl (fun K hK => ?_) | refine wpMixH_loc rfl rfl (fun K hK => ?_) | refine wpMixH_any rfl rfl (fun K hK => ?_)); go_simp; refine hK _ _ ?_; clear hK K))
  refine wpMixH_loud rfl rfl (fun n2 K hK => ?_)
  go_wp2_with fail
  refine (CT.out _).mono ?_
  rintro _ w3 ⟨rfl, hx⟩
  have hx3 : Below w2.heap.size w2 w3 := ⟨hx.os, hx.tape, hx.output, hx.size, hx.block⟩
  clear hx CT x0 x1 x2 x3 x4 x5 c0
  have hR3 := Lib.hid (hR2.out.below hx3)
  have hE3 := Lib.hid (hE2.out.below hx3 hE2.out.lt)
  have hb3 := Lib.hid (hb2.out.trans (hx3.mono hb2.out.size))
  clear hx3 hR2 hE2 hb2
  have x0 := hE3.out.cell 0
  have x1 := hE3.out.cell 1
  have x2 := hE3.out.cell 2
  have x3 := hE3.out.cell 3
  have x4 := hE3.out.cell 4
  have x5 := hE3.out.cell 5
  simp only [List.getElem?_toArray, List.getElem?_cons_zero, List.getElem?_cons_succ] at x0 x1 x2 x3 x4 x5
  have c0 := (hR3.out.blk.fcell (i := t * 3) (by omega)).trans (congrArg some (gR_how ht))
  go_wp2
  refine hK _ _ (fun _ => trivial) ?_; clear hK K
  (repeat ((first | refine wpMixH_pure rfl rfl (fun K hK => ?_) | refine wpMixH_loc rfl rfl (fun K hK => ?_) | refine wpMixH_any rfl rfl (fun K hK => ?_)); go_simp; refine hK _ _ ?_; clear hK K))
  refine wpMixH_nil (fun n3 => ?_)
  go_wp2_with fail
  refine (CL.out _ (hR3.out.drewN n3)).mono ?_
  rintro _ _ ⟨rfl, rfl⟩
  clear CL
  go_wp2_with fail
  refine (CN.out _ (hR3.out.drewN n3)).mono ?_
  rintro _ w4 ⟨rfl, hx⟩
  have hx4 : Below w3.heap.size w3 w4 := ⟨hx.os, hx.tape, hx.output, hx.size, hx.block⟩
  clear hx CN x0 x1 x2 x3 x4 x5 c0
  have hR4 := Lib.hid (hR3.out.below hx4)
  have hE4 := Lib.hid (hE3.out.below hx4 hE3.out.lt)
  have hb4 := Lib.hid (hb3.out.trans (hx4.mono hb3.out.size))
  clear hx4 hR3 hE3 hb3
  have x0 := hE4.out.cell 0
  have x1 := hE4.out.cell 1
  have x2 := hE4.out.cell 2
  have x3 := hE4.out.cell 3
  have x4 := hE4.out.cell 4
  have x5 := hE4.out.cell 5
  simp only [List.getElem?_toArray, List.getElem?_cons_zero, List.getElem?_cons_succ] at x0 x1 x2 x3 x4 x5
  have c0 := (hR4.out.blk.fcell (i := t * 3) (by omega)).trans (congrArg some (gR_how ht))
  go_wp2
  go_ret
  exact ⟨rfl, hb4.out.mono hBw.out⟩
set_option maxRecDepth 100000 in
theorem rput_own5 (h : RefW B w b s wv) (hI : Inv s k) (hkk : k ≤ 1152921504606846976) (hk16 : (k + 1) * 16 ≤ 140737488355328) (hwl : ∀ t, (s.th t).ws.length ≤ k) {t : Nat} (ht : t < 8) {ad wd er : Int} {ow : Bool} (he : EvWf ⟨t, 5, ad, wd, ow, er⟩) {nx : Nat} (hf : fmd ⟨t, 5, ad, wd, ow, er⟩ = true) (htn : tnR (s.th t).how ⟨t, 5, ad, wd, ow, er⟩ = (nx : Int)) (hlk : lkR s (t : Int) = false) (hnm : wordOk (s.th t) s.num ⟨t, 5, ad, wd, ow, er⟩ = true) (how : ownOk (s.th t) ⟨t, 5, ad, wd, ow, er⟩ = false) :
    Calls Try.prog 61 #[.pointer (some ⟨b, 0, none⟩), evV ⟨t, 5, ad, wd, ow, er⟩] w fun x w' => x = .returned (.int .i64 233) ∧ Below B w w' := by
  have C1 := Lib.hid (fun W => rformed_b ⟨t, 5, ad, wd, ow, er⟩ W he.2.2.2.1.1)
  rw [hf] at C1
  have CT := Lib.hid (fun W => turn_b (s.th t).how (hI.bd.how t) ⟨t, 5, ad, wd, ow, er⟩ W)
  rw [htn] at CT
  have CL := Lib.hid (fun W (hW : RefW B W b s wv) => rlocked_b hW (t : Int))
  rw [hlk] at CL
  have CN := Lib.hid (fun W (hW : RefW B W b s wv) => rnumber_b hW ht ⟨t, 5, ad, wd, ow, er⟩ hI.bd.num.1 (Int.le_trans hI.bd.num.2 (by omega)) (hI.bd.sn t).1 (hI.bd.sn t).2)
  rw [hnm] at CN
  have CO := Lib.hid (fun W (hW : RefW B W b s wv) => rown_b hW ht (by have := hwl t; omega) ⟨t, 5, ad, wd, ow, er⟩)
  rw [how] at CO
  have hR1 := Lib.hid (h.alloc (.cells #[.int .i64 t, .int .i64 5, .int .u64 ad, .int .u64 wd, .bool ow, .int .i64 er] 61))
  have hE1 := Lib.hid (Blk.new w 61 #[.int .i64 t, .int .i64 5, .int .u64 ad, .int .u64 wd, .bool ow, .int .i64 er])
  have hb1 := Lib.hid ((Below.refl w.heap.size w).alloc (Nat.le_refl _) (.cells #[.int .i64 t, .int .i64 5, .int .u64 ad, .int .u64 wd, .bool ow, .int .i64 er] 61))
  have hBw : Hid (B ≤ w.heap.size) := Lib.hid (Nat.le_trans h.geb (Nat.le_of_lt h.blk.lt))
  replace hf := Lib.hid hf
  replace htn := Lib.hid htn
  replace hlk := Lib.hid hlk
  replace hnm := Lib.hid hnm
  replace how := Lib.hid how
  unfold evV at *
  dsimp only at *
  clear h
  have ht' : (t : Int) < 8 := by omega
  go_enter Try.func61, Try.ntmps61
  go_wp2_with fail
  refine (C1.out _).mono ?_
  rintro _ w2 ⟨rfl, hx2⟩
  have hR2 := Lib.hid (hR1.out.below hx2)
  have hE2 := Lib.hid (hE1.out.below hx2 hE1.out.lt)
  have hb2 := Lib.hid (hb1.out.trans (hx2.mono hb1.out.size))
  clear hx2 hR1 hE1 hb1
  clear C1
  have x0 := hE2.out.cell 0
  have x1 := hE2.out.cell 1
  have x2 := hE2.out.cell 2
  have x3 := hE2.out.cell 3
  have x4 := hE2.out.cell 4
  have x5 := hE2.out.cell 5
  simp only [List.getElem?_toArray, List.getElem?_cons_zero, List.getElem?_cons_succ] at x0 x1 x2 x3 x4 x5
  have c0 := (hR2.out.blk.fcell (i := t * 3) (by omega)).trans (congrArg some (gR_how ht))
  go_wp2
  refine wp_region_mixH (fun _ => True) [3, 3, 1, 3, 3, 3, 3] (List.range 7) (by kernel_rfl) (by kernel_rfl) (fun _ _ h => h) trivial ?_
  (repeat ((first | refine wpMixH_pure rfl rfl (fun K hK => ?_) | refine wpMixH_loc rfl rfl (fun K hK => ?_) | refine wpMixH_any rfl rfl (fun K hK => ?_)); go_simp; refine hK _ _ ?_; clear hK K))
  refine wpMixH_nil (fun n1 => ?_)
  go_wp2
  refine wp_region_mixH (fun _ => True) [3, 3, 3, 1, 1, 2, 3] (List.range 7) (by kernel_rfl) (by kernel_rfl) (fun _ _ h => h) trivial ?_
  (repeat ((first | refine wpMixH_pure rfl rfl (fun K hK => ?_) | refine wpMixH_loc rfl rfl (fun K hK => ?_) | refine wpMixH_any rfl rfl (fun K hK => ?_)); go_simp; refine hK _ _ ?_; clear hK K))
  refine wpMixH_loud rfl rfl (fun n2 K hK => ?_)
  go_wp2_with fail
  refine (CT.out _).mono ?_
  rintro _ w3 ⟨rfl, hx⟩
  have hx3 : Below w2.heap.size w2 w3 := ⟨hx.os, hx.tape, hx.output, hx.size, hx.block⟩
  clear hx CT x0 x1 x2 x3 x4 x5 c0
  have hR3 := Lib.hid (hR2.out.below hx3)
  have hE3 := Lib.hid (hE2.out.below hx3 hE2.out.lt)
  have hb3 := Lib.hid (hb2.out.trans (hx3.mono hb2.out.size))
  clear hx3 hR2 hE2 hb2
  have x0 := hE3.out.cell 0
  have x1 := hE3.out.cell 1
  have x2 := hE3.out.cell 2
  have x3 := hE3.out.cell 3
  have x4 := hE3.out.cell 4
  have x5 := hE3.out.cell 5
  simp only [List.getElem?_toArray, List.getElem?_cons_zero, List.getElem?_cons_succ] at x0 x1 x2 x3 x4 x5
  have c0 := (hR3.out.blk.fcell (i := t * 3) (by omega)).trans (congrArg some (gR_how ht))
  go_wp2
  refine hK _ _ (fun _ => trivial) ?_; clear hK K
  (repeat ((first | refine wpMixH_pure rfl rfl (fun K hK => ?_) | refine wpMixH_loc rfl rfl (fun K hK => ?_) | refine wpMixH_any rfl rfl (fun K hK => ?_)); go_simp; refine hK _ _ ?_; clear hK K))
  refine wpMixH_nil (fun n3 => ?_)
  go_wp2_with fail
  refine (CL.out _ (hR3.out.drewN n3)).mono ?_
  rintro _ _ ⟨rfl, rfl⟩
  clear CL
  go_wp2_with fail
  refine (CN.out _ (hR3.out.drewN n3)).mono ?_
  rintro _ w4 ⟨rfl, hx⟩
  have hx4 : Below w3.heap.size w3 w4 := ⟨hx.os, hx.tape, hx.output, hx.size, hx.block⟩
  clear hx CN x0 x1 x2 x3 x4 x5 c0
  have hR4 := Lib.hid (hR3.out.below hx4)
  have hE4 := Lib.hid (hE3.out.below hx4 hE3.out.lt)
  have hb4 := Lib.hid (hb3.out.trans (hx4.mono hb3.out.size))
  clear hx4 hR3 hE3 hb3
  have x0 := hE4.out.cell 0
  have x1 := hE4.out.cell 1
  have x2 := hE4.out.cell 2
  have x3 := hE4.out.cell 3
  have x4 := hE4.out.cell 4
  have x5 := hE4.out.cell 5
  simp only [List.getElem?_toArray, List.getElem?_cons_zero, List.getElem?_cons_succ] at x0 x1 x2 x3 x4 x5
  have c0 := (hR4.out.blk.fcell (i := t * 3) (by omega)).trans (congrArg some (gR_how ht))
  go_wp2_with fail
  refine (CO.out _ hR4.out).mono ?_
  rintro _ w5 ⟨rfl, hx5⟩
  clear CO x0 x1 x2 x3 x4 x5 c0
  have hR5 := Lib.hid (hR4.out.below hx5)
  have hE5 := Lib.hid (hE4.out.below hx5 hE4.out.lt)
  have hb5 := Lib.hid (hb4.out.trans (hx5.mono hb4.out.size))
  clear hx5 hR4 hE4 hb4
  have x0 := hE5.out.cell 0
  have x1 := hE5.out.cell 1
  have x2 := hE5.out.cell 2
  have x3 := hE5.out.cell 3
  have x4 := hE5.out.cell 4
  have x5 := hE5.out.cell 5
  simp only [List.getElem?_toArray, List.getElem?_cons_zero, List.getElem?_cons_succ] at x0 x1 x2 x3 x4 x5
  have c0 := (hR5.out.blk.fcell (i := t * 3) (by omega)).trans (congrArg some (gR_how ht))
  go_wp2
  go_ret
  exact ⟨rfl, hb5.out.mono hBw.out⟩
set_option maxRecDepth 100000 in
theorem rput_num (h : RefW B w b s wv) (hI : Inv s k) (hkk : k ≤ 1152921504606846976) (hk16 : (k + 1) * 16 ≤ 140737488355328) (hwl : ∀ t, (s.th t).ws.length ≤ k) {t : Nat} (ht : t < 8) {kd ad wd er : Int} {ow : Bool} (he : EvWf ⟨t, kd, ad, wd, ow, er⟩) {nx : Nat} (g1 : (kd == 1) = false) (g4 : (kd == 4) = false) (g5 : (kd == 5) = false) (hf : fmd ⟨t, kd, ad, wd, ow, er⟩ = true) (htn : tnR (s.th t).how ⟨t, kd, ad, wd, ow, er⟩ = (nx : Int)) (hnm : wordOk (s.th t) s.num ⟨t, kd, ad, wd, ow, er⟩ = false) :
    Calls Try.prog 61 #[.pointer (some ⟨b, 0, none⟩), evV ⟨t, kd, ad, wd, ow, er⟩] w fun x w' => x = .returned (.int .i64 232) ∧ Below B w w' := by
  have C1 := Lib.hid (fun W => rformed_b ⟨t, kd, ad, wd, ow, er⟩ W he.2.2.2.1.1)
  rw [hf] at C1
  have CT := Lib.hid (fun W => turn_b (s.th t).how (hI.bd.how t) ⟨t, kd, ad, wd, ow, er⟩ W)
  rw [htn] at CT
  have CN := Lib.hid (fun W (hW : RefW B W b s wv) => rnumber_b hW ht ⟨t, kd, ad, wd, ow, er⟩ hI.bd.num.1 (Int.le_trans hI.bd.num.2 (by omega)) (hI.bd.sn t).1 (hI.bd.sn t).2)
  rw [hnm] at CN
  have hR1 := Lib.hid (h.alloc (.cells #[.int .i64 t, .int .i64 kd, .int .u64 ad, .int .u64 wd, .bool ow, .int .i64 er] 61))
  have hE1 := Lib.hid (Blk.new w 61 #[.int .i64 t, .int .i64 kd, .int .u64 ad, .int .u64 wd, .bool ow, .int .i64 er])
  have hb1 := Lib.hid ((Below.refl w.heap.size w).alloc (Nat.le_refl _) (.cells #[.int .i64 t, .int .i64 kd, .int .u64 ad, .int .u64 wd, .bool ow, .int .i64 er] 61))
  have hBw : Hid (B ≤ w.heap.size) := Lib.hid (Nat.le_trans h.geb (Nat.le_of_lt h.blk.lt))
  replace hf := Lib.hid hf
  replace htn := Lib.hid htn
  replace hnm := Lib.hid hnm
  unfold evV at *
  dsimp only at *
  clear h
  have ht' : (t : Int) < 8 := by omega
  replace hI := Lib.hid hI
  replace he := Lib.hid he
  go_enter Try.func61, Try.ntmps61
  go_wp2_with fail
  refine (C1.out _).mono ?_
  rintro _ w2 ⟨rfl, hx2⟩
  have hR2 := Lib.hid (hR1.out.below hx2)
  have hE2 := Lib.hid (hE1.out.below hx2 hE1.out.lt)
  have hb2 := Lib.hid (hb1.out.trans (hx2.mono hb1.out.size))
  clear hx2 hR1 hE1 hb1
  clear C1
  have x0 := hE2.out.cell 0
  have x1 := hE2.out.cell 1
  have x2 := hE2.out.cell 2
  have x3 := hE2.out.cell 3
  have x4 := hE2.out.cell 4
  have x5 := hE2.out.cell 5
  simp only [List.getElem?_toArray, List.getElem?_cons_zero, List.getElem?_cons_succ] at x0 x1 x2 x3 x4 x5
  have c0 := (hR2.out.blk.fcell (i := t * 3) (by omega)).trans (congrArg some (gR_how ht))
  go_wp2
  refine wp_region_mixH (fun _ => True) [3, 3, 1, 3, 3, 3, 3] (List.range 7) (by kernel_rfl) (by kernel_rfl) (fun _ _ h => h) trivial ?_
  (repeat ((first | refine wpMixH_pure rfl rfl (fun K hK => ?_) | refine wpMixH_loc rfl rfl (fun K hK => ?_) | refine wpMixH_any rfl rfl (fun K hK => ?_)); go_simp; refine hK _ _ ?_; clear hK K))
  refine wpMixH_nil (fun n1 => ?_)
  go_wp2
  refine wp_region_mixH (fun _ => True) [3, 3, 3, 1, 1, 2, 3] (List.range 7) (by kernel_rfl) (by kernel_rfl) (fun _ _ h => h) trivial ?_
  (repeat ((first | refine wpMixH_pure rfl rfl (fun K hK => ?_) | refine wpMixH_loc rfl rfl (fun K hK => ?_) | refine wpMixH_any rfl rfl (fun K hK => ?_)); go_simp; refine hK _ _ ?_; clear hK K))
  refine wpMixH_loud rfl rfl (fun n2 K hK => ?_)
  go_wp2_with fail
  refine (CT.out _).mono ?_
  rintro _ w3 ⟨rfl, hx⟩
  have hx3 : Below w2.heap.size w2 w3 := ⟨hx.os, hx.tape, hx.output, hx.size, hx.block⟩
  clear hx CT x0 x1 x2 x3 x4 x5 c0
  have hR3 := Lib.hid (hR2.out.below hx3)
  have hE3 := Lib.hid (hE2.out.below hx3 hE2.out.lt)
  have hb3 := Lib.hid (hb2.out.trans (hx3.mono hb2.out.size))
  clear hx3 hR2 hE2 hb2
  have x0 := hE3.out.cell 0
  have x1 := hE3.out.cell 1
  have x2 := hE3.out.cell 2
  have x3 := hE3.out.cell 3
  have x4 := hE3.out.cell 4
  have x5 := hE3.out.cell 5
  simp only [List.getElem?_toArray, List.getElem?_cons_zero, List.getElem?_cons_succ] at x0 x1 x2 x3 x4 x5
  have c0 := (hR3.out.blk.fcell (i := t * 3) (by omega)).trans (congrArg some (gR_how ht))
  go_wp2
  refine hK _ _ (fun _ => trivial) ?_; clear hK K
  (repeat ((first | refine wpMixH_pure rfl rfl (fun K hK => ?_) | refine wpMixH_loc rfl rfl (fun K hK => ?_) | refine wpMixH_any rfl rfl (fun K hK => ?_)); go_simp; refine hK _ _ ?_; clear hK K))
  refine wpMixH_nil (fun n3 => ?_)
  go_wp2_with fail
  refine (CN.out _ (hR3.out.drewN n3)).mono ?_
  rintro _ w4 ⟨rfl, hx⟩
  have hx4 : Below w3.heap.size w3 w4 := ⟨hx.os, hx.tape, hx.output, hx.size, hx.block⟩
  clear hx CN x0 x1 x2 x3 x4 x5 c0
  have hR4 := Lib.hid (hR3.out.below hx4)
  have hE4 := Lib.hid (hE3.out.below hx4 hE3.out.lt)
  have hb4 := Lib.hid (hb3.out.trans (hx4.mono hb3.out.size))
  clear hx4 hR3 hE3 hb3
  have x0 := hE4.out.cell 0
  have x1 := hE4.out.cell 1
  have x2 := hE4.out.cell 2
  have x3 := hE4.out.cell 3
  have x4 := hE4.out.cell 4
  have x5 := hE4.out.cell 5
  simp only [List.getElem?_toArray, List.getElem?_cons_zero, List.getElem?_cons_succ] at x0 x1 x2 x3 x4 x5
  have c0 := (hR4.out.blk.fcell (i := t * 3) (by omega)).trans (congrArg some (gR_how ht))
  go_wp2
  go_ret
  exact ⟨rfl, hb4.out.mono hBw.out⟩
set_option maxRecDepth 100000 in
theorem rput_own (h : RefW B w b s wv) (hI : Inv s k) (hkk : k ≤ 1152921504606846976) (hk16 : (k + 1) * 16 ≤ 140737488355328) (hwl : ∀ t, (s.th t).ws.length ≤ k) {t : Nat} (ht : t < 8) {kd ad wd er : Int} {ow : Bool} (he : EvWf ⟨t, kd, ad, wd, ow, er⟩) {nx : Nat} (g1 : (kd == 1) = false) (g4 : (kd == 4) = false) (g5 : (kd == 5) = false) (hf : fmd ⟨t, kd, ad, wd, ow, er⟩ = true) (htn : tnR (s.th t).how ⟨t, kd, ad, wd, ow, er⟩ = (nx : Int)) (hnm : wordOk (s.th t) s.num ⟨t, kd, ad, wd, ow, er⟩ = true) (how : ownOk (s.th t) ⟨t, kd, ad, wd, ow, er⟩ = false) :
    Calls Try.prog 61 #[.pointer (some ⟨b, 0, none⟩), evV ⟨t, kd, ad, wd, ow, er⟩] w fun x w' => x = .returned (.int .i64 233) ∧ Below B w w' := by
  have C1 := Lib.hid (fun W => rformed_b ⟨t, kd, ad, wd, ow, er⟩ W he.2.2.2.1.1)
  rw [hf] at C1
  have CT := Lib.hid (fun W => turn_b (s.th t).how (hI.bd.how t) ⟨t, kd, ad, wd, ow, er⟩ W)
  rw [htn] at CT
  have CN := Lib.hid (fun W (hW : RefW B W b s wv) => rnumber_b hW ht ⟨t, kd, ad, wd, ow, er⟩ hI.bd.num.1 (Int.le_trans hI.bd.num.2 (by omega)) (hI.bd.sn t).1 (hI.bd.sn t).2)
  rw [hnm] at CN
  have CO := Lib.hid (fun W (hW : RefW B W b s wv) => rown_b hW ht (by have := hwl t; omega) ⟨t, kd, ad, wd, ow, er⟩)
  rw [how] at CO
  have hR1 := Lib.hid (h.alloc (.cells #[.int .i64 t, .int .i64 kd, .int .u64 ad, .int .u64 wd, .bool ow, .int .i64 er] 61))
  have hE1 := Lib.hid (Blk.new w 61 #[.int .i64 t, .int .i64 kd, .int .u64 ad, .int .u64 wd, .bool ow, .int .i64 er])
  have hb1 := Lib.hid ((Below.refl w.heap.size w).alloc (Nat.le_refl _) (.cells #[.int .i64 t, .int .i64 kd, .int .u64 ad, .int .u64 wd, .bool ow, .int .i64 er] 61))
  have hBw : Hid (B ≤ w.heap.size) := Lib.hid (Nat.le_trans h.geb (Nat.le_of_lt h.blk.lt))
  replace hf := Lib.hid hf
  replace htn := Lib.hid htn
  replace hnm := Lib.hid hnm
  replace how := Lib.hid how
  unfold evV at *
  dsimp only at *
  clear h
  have ht' : (t : Int) < 8 := by omega
  replace hI := Lib.hid hI
  replace he := Lib.hid he
  go_enter Try.func61, Try.ntmps61
  go_wp2_with fail
  refine (C1.out _).mono ?_
  rintro _ w2 ⟨rfl, hx2⟩
  have hR2 := Lib.hid (hR1.out.below hx2)
  have hE2 := Lib.hid (hE1.out.below hx2 hE1.out.lt)
  have hb2 := Lib.hid (hb1.out.trans (hx2.mono hb1.out.size))
  clear hx2 hR1 hE1 hb1
  clear C1
  have x0 := hE2.out.cell 0
  have x1 := hE2.out.cell 1
  have x2 := hE2.out.cell 2
  have x3 := hE2.out.cell 3
  have x4 := hE2.out.cell 4
  have x5 := hE2.out.cell 5
  simp only [List.getElem?_toArray, List.getElem?_cons_zero, List.getElem?_cons_succ] at x0 x1 x2 x3 x4 x5
  have c0 := (hR2.out.blk.fcell (i := t * 3) (by omega)).trans (congrArg some (gR_how ht))
  go_wp2
  refine wp_region_mixH (fun _ => True) [3, 3, 1, 3, 3, 3, 3] (List.range 7) (by kernel_rfl) (by kernel_rfl) (fun _ _ h => h) trivial ?_
  (repeat ((first | refine wpMixH_pure rfl rfl (fun K hK => ?_) | refine wpMixH_loc rfl rfl (fun K hK => ?_) | refine wpMixH_any rfl rfl (fun K hK => ?_)); go_simp; refine hK _ _ ?_; clear hK K))
  refine wpMixH_nil (fun n1 => ?_)
  go_wp2
  refine wp_region_mixH (fun _ => True) [3, 3, 3, 1, 1, 2, 3] (List.range 7) (by kernel_rfl) (by kernel_rfl) (fun _ _ h => h) trivial ?_
  (repeat ((first | refine wpMixH_pure rfl rfl (fun K hK => ?_) | refine wpMixH_loc rfl rfl (fun K hK => ?_) | refine wpMixH_any rfl rfl (fun K hK => ?_)); go_simp; refine hK _ _ ?_; clear hK K))
  refine wpMixH_loud rfl rfl (fun n2 K hK => ?_)
  go_wp2_with fail
  refine (CT.out _).mono ?_
  rintro _ w3 ⟨rfl, hx⟩
  have hx3 : Below w2.heap.size w2 w3 := ⟨hx.os, hx.tape, hx.output, hx.size, hx.block⟩
  clear hx CT x0 x1 x2 x3 x4 x5 c0
  have hR3 := Lib.hid (hR2.out.below hx3)
  have hE3 := Lib.hid (hE2.out.below hx3 hE2.out.lt)
  have hb3 := Lib.hid (hb2.out.trans (hx3.mono hb2.out.size))
  clear hx3 hR2 hE2 hb2
  have x0 := hE3.out.cell 0
  have x1 := hE3.out.cell 1
  have x2 := hE3.out.cell 2
  have x3 := hE3.out.cell 3
  have x4 := hE3.out.cell 4
  have x5 := hE3.out.cell 5
  simp only [List.getElem?_toArray, List.getElem?_cons_zero, List.getElem?_cons_succ] at x0 x1 x2 x3 x4 x5
  have c0 := (hR3.out.blk.fcell (i := t * 3) (by omega)).trans (congrArg some (gR_how ht))
  go_wp2
  refine hK _ _ (fun _ => trivial) ?_; clear hK K
  (repeat ((first | refine wpMixH_pure rfl rfl (fun K hK => ?_) | refine wpMixH_loc rfl rfl (fun K hK => ?_) | refine wpMixH_any rfl rfl (fun K hK => ?_)); go_simp; refine hK _ _ ?_; clear hK K))
  refine wpMixH_nil (fun n3 => ?_)
  go_wp2_with fail
  refine (CN.out _ (hR3.out.drewN n3)).mono ?_
  rintro _ w4 ⟨rfl, hx⟩
  have hx4 : Below w3.heap.size w3 w4 := ⟨hx.os, hx.tape, hx.output, hx.size, hx.block⟩
  clear hx CN x0 x1 x2 x3 x4 x5 c0
  have hR4 := Lib.hid (hR3.out.below hx4)
  have hE4 := Lib.hid (hE3.out.below hx4 hE3.out.lt)
  have hb4 := Lib.hid (hb3.out.trans (hx4.mono hb3.out.size))
  clear hx4 hR3 hE3 hb3
  have x0 := hE4.out.cell 0
  have x1 := hE4.out.cell 1
  have x2 := hE4.out.cell 2
  have x3 := hE4.out.cell 3
  have x4 := hE4.out.cell 4
  have x5 := hE4.out.cell 5
  simp only [List.getElem?_toArray, List.getElem?_cons_zero, List.getElem?_cons_succ] at x0 x1 x2 x3 x4 x5
  have c0 := (hR4.out.blk.fcell (i := t * 3) (by omega)).trans (congrArg some (gR_how ht))
  go_wp2_with fail
  refine (CO.out _ hR4.out).mono ?_
  rintro _ w5 ⟨rfl, hx5⟩
  clear CO x0 x1 x2 x3 x4 x5 c0
  have hR5 := Lib.hid (hR4.out.below hx5)
  have hE5 := Lib.hid (hE4.out.below hx5 hE4.out.lt)
  have hb5 := Lib.hid (hb4.out.trans (hx5.mono hb4.out.size))
  clear hx5 hR4 hE4 hb4
  have x0 := hE5.out.cell 0
  have x1 := hE5.out.cell 1
  have x2 := hE5.out.cell 2
  have x3 := hE5.out.cell 3
  have x4 := hE5.out.cell 4
  have x5 := hE5.out.cell 5
  simp only [List.getElem?_toArray, List.getElem?_cons_zero, List.getElem?_cons_succ] at x0 x1 x2 x3 x4 x5
  have c0 := (hR5.out.blk.fcell (i := t * 3) (by omega)).trans (congrArg some (gR_how ht))
  go_wp2
  go_ret
  exact ⟨rfl, hb5.out.mono hBw.out⟩
set_option maxRecDepth 100000 in
theorem rput_ok1 (h : RefW B w b s wv) (hI : Inv s k) (hkk : k ≤ 1152921504606846976) (hk16 : (k + 1) * 16 ≤ 140737488355328) (hwl : ∀ t, (s.th t).ws.length ≤ k) {t : Nat} (ht : t < 8) {ad wd er : Int} {ow : Bool} (he : EvWf ⟨t, 1, ad, wd, ow, er⟩) {nx : Nat} (hf : fmd ⟨t, 1, ad, wd, ow, er⟩ = true) (htn : tnR (s.th t).how ⟨t, 1, ad, wd, ow, er⟩ = (nx : Int)) (hlk : lkR s (t : Int) = false) (hnm : wordOk (s.th t) s.num ⟨t, 1, ad, wd, ow, er⟩ = true) (how : ownOk (s.th t) ⟨t, 1, ad, wd, ow, er⟩ = true) (hnx : tb (s.th t).how 1 = nx + 1) :
    Calls Try.prog 61 #[.pointer (some ⟨b, 0, none⟩), evV ⟨t, 1, ad, wd, ow, er⟩] w fun x w' => x = .returned (.int .i64 0) ∧ Below B w w' ∧ ∃ wv', RefW B w' b (take s k ⟨t, 1, ad, wd, ow, er⟩) wv' := by
  have C1 := Lib.hid (fun W => rformed_b ⟨t, 1, ad, wd, ow, er⟩ W he.2.2.2.1.1)
  rw [hf] at C1
  have CT := Lib.hid (fun W => turn_b (s.th t).how (hI.bd.how t) ⟨t, 1, ad, wd, ow, er⟩ W)
  rw [htn] at CT
  have CL := Lib.hid (fun W (hW : RefW B W b s wv) => rlocked_b hW (t : Int))
  rw [hlk] at CL
  have CN := Lib.hid (fun W (hW : RefW B W b s wv) => rnumber_b hW ht ⟨t, 1, ad, wd, ow, er⟩ hI.bd.num.1 (Int.le_trans hI.bd.num.2 (by omega)) (hI.bd.sn t).1 (hI.bd.sn t).2)
  rw [hnm] at CN
  have CO := Lib.hid (fun W (hW : RefW B W b s wv) => rown_b hW ht (by have := hwl t; omega) ⟨t, 1, ad, wd, ow, er⟩)
  rw [how] at CO
  have hR1 := Lib.hid (h.alloc (.cells #[.int .i64 t, .int .i64 1, .int .u64 ad, .int .u64 wd, .bool ow, .int .i64 er] 61))
  have hE1 := Lib.hid (Blk.new w 61 #[.int .i64 t, .int .i64 1, .int .u64 ad, .int .u64 wd, .bool ow, .int .i64 er])
  have hb1 := Lib.hid ((Below.refl w.heap.size w).alloc (Nat.le_refl _) (.cells #[.int .i64 t, .int .i64 1, .int .u64 ad, .int .u64 wd, .bool ow, .int .i64 er] 61))
  have hBw : Hid (B ≤ w.heap.size) := Lib.hid (Nat.le_trans h.geb (Nat.le_of_lt h.blk.lt))
  have hne1 : b ≠ w.heap.size := Nat.ne_of_lt h.blk.lt
  have hne2 : w.heap.size ≠ b := (Nat.ne_of_lt h.blk.lt).symm
  replace hf := Lib.hid hf
  replace htn := Lib.hid htn
  replace hlk := Lib.hid hlk
  replace hnm := Lib.hid hnm
  replace how := Lib.hid how
  replace hnx := Lib.hid hnx
  unfold evV at *
  dsimp only at *
  clear h
  have ht' : (t : Int) < 8 := by omega
  go_enter Try.func61, Try.ntmps61
  go_wp2_with fail
  refine (C1.out _).mono ?_
  rintro _ w2 ⟨rfl, hx2⟩
  have hR2 := Lib.hid (hR1.out.below hx2)
  have hE2 := Lib.hid (hE1.out.below hx2 hE1.out.lt)
  have hb2 := Lib.hid (hb1.out.trans (hx2.mono hb1.out.size))
  clear hx2 hR1 hE1 hb1
  clear C1
  have x0 := hE2.out.cell 0
  have x1 := hE2.out.cell 1
  have x2 := hE2.out.cell 2
  have x3 := hE2.out.cell 3
  have x4 := hE2.out.cell 4
  have x5 := hE2.out.cell 5
  simp only [List.getElem?_toArray, List.getElem?_cons_zero, List.getElem?_cons_succ] at x0 x1 x2 x3 x4 x5
  have c0 := (hR2.out.blk.fcell (i := t * 3) (by omega)).trans (congrArg some (gR_how ht))
  go_wp2
  refine wp_region_mixH (fun _ => True) [3, 3, 1, 3, 3, 3, 3] (List.range 7) (by kernel_rfl) (by kernel_rfl) (fun _ _ h => h) trivial ?_
  (repeat ((first | refine wpMixH_pure rfl rfl (fun K hK => ?_) | refine wpMixH_loc rfl rfl (fun K hK => ?_) | refine wpMixH_any rfl rfl (fun K hK => ?_)); go_simp; refine hK _ _ ?_; clear hK K))
  refine wpMixH_nil (fun n1 => ?_)
  go_wp2
  refine wp_region_mixH (fun _ => True) [3, 3, 3, 1, 1, 2, 3] (List.range 7) (by kernel_rfl) (by kernel_rfl) (fun _ _ h => h) trivial ?_
  (repeat ((first | refine wpMixH_pure rfl rfl (fun K hK => ?_) | refine wpMixH_loc rfl rfl (fun K hK => ?_) | refine wpMixH_any rfl rfl (fun K hK => ?_)); go_simp; refine hK _ _ ?_; clear hK K))
  refine wpMixH_loud rfl rfl (fun n2 K hK => ?_)
  go_wp2_with fail
  refine (CT.out _).mono ?_
  rintro _ w3 ⟨rfl, hx⟩
  have hx3 : Below w2.heap.size w2 w3 := ⟨hx.os, hx.tape, hx.output, hx.size, hx.block⟩
  clear hx CT x0 x1 x2 x3 x4 x5 c0
  have hR3 := Lib.hid (hR2.out.below hx3)
  have hE3 := Lib.hid (hE2.out.below hx3 hE2.out.lt)
  have hb3 := Lib.hid (hb2.out.trans (hx3.mono hb2.out.size))
  clear hx3 hR2 hE2 hb2
  have x0 := hE3.out.cell 0
  have x1 := hE3.out.cell 1
  have x2 := hE3.out.cell 2
  have x3 := hE3.out.cell 3
  have x4 := hE3.out.cell 4
  have x5 := hE3.out.cell 5
  simp only [List.getElem?_toArray, List.getElem?_cons_zero, List.getElem?_cons_succ] at x0 x1 x2 x3 x4 x5
  have c0 := (hR3.out.blk.fcell (i := t * 3) (by omega)).trans (congrArg some (gR_how ht))
  go_wp2
  refine hK _ _ (fun _ => trivial) ?_; clear hK K
  (repeat ((first | refine wpMixH_pure rfl rfl (fun K hK => ?_) | refine wpMixH_loc rfl rfl (fun K hK => ?_) | refine wpMixH_any rfl rfl (fun K hK => ?_)); go_simp; refine hK _ _ ?_; clear hK K))
  refine wpMixH_nil (fun n3 => ?_)
  go_wp2_with fail
  refine (CL.out _ (hR3.out.drewN n3)).mono ?_
  rintro _ _ ⟨rfl, rfl⟩
  clear CL
  go_wp2_with fail
  refine (CN.out _ (hR3.out.drewN n3)).mono ?_
  rintro _ w4 ⟨rfl, hx⟩
  have hx4 : Below w3.heap.size w3 w4 := ⟨hx.os, hx.tape, hx.output, hx.size, hx.block⟩
  clear hx CN x0 x1 x2 x3 x4 x5 c0
  have hR4 := Lib.hid (hR3.out.below hx4)
  have hE4 := Lib.hid (hE3.out.below hx4 hE3.out.lt)
  have hb4 := Lib.hid (hb3.out.trans (hx4.mono hb3.out.size))
  clear hx4 hR3 hE3 hb3
  have x0 := hE4.out.cell 0
  have x1 := hE4.out.cell 1
  have x2 := hE4.out.cell 2
  have x3 := hE4.out.cell 3
  have x4 := hE4.out.cell 4
  have x5 := hE4.out.cell 5
  simp only [List.getElem?_toArray, List.getElem?_cons_zero, List.getElem?_cons_succ] at x0 x1 x2 x3 x4 x5
  have c0 := (hR4.out.blk.fcell (i := t * 3) (by omega)).trans (congrArg some (gR_how ht))
  go_wp2_with fail
  refine (CO.out _ hR4.out).mono ?_
  rintro _ w5 ⟨rfl, hx5⟩
  clear CO x0 x1 x2 x3 x4 x5 c0
  have hR5 := Lib.hid (hR4.out.below hx5)
  have hE5 := Lib.hid (hE4.out.below hx5 hE4.out.lt)
  have hb5 := Lib.hid (hb4.out.trans (hx5.mono hb4.out.size))
  clear hx5 hR4 hE4 hb4
  have x0 := hE5.out.cell 0
  have x1 := hE5.out.cell 1
  have x2 := hE5.out.cell 2
  have x3 := hE5.out.cell 3
  have x4 := hE5.out.cell 4
  have x5 := hE5.out.cell 5
  simp only [List.getElem?_toArray, List.getElem?_cons_zero, List.getElem?_cons_succ] at x0 x1 x2 x3 x4 x5
  have c0 := (hR5.out.blk.fcell (i := t * 3) (by omega)).trans (congrArg some (gR_how ht))
  have fz := fun i => hR5.out.blk.frozen i
  have fz0 := fz (t * 3)
  have fz1 := fz (t * 3 + 1)
  have fz2 := fz (t * 3 + 2)
  have fz24 := fz 24
  clear fz
  have c1 := (hR5.out.blk.fcell (i := t * 3 + 1) (by omega)).trans (congrArg some (gR_sn ht))
  have c2 := (hR5.out.blk.fcell (i := t * 3 + 2) (by omega)).trans (congrArg some (gR_ws ht))
  have c24 := (hR5.out.blk.fcell (i := 24) (by omega)).trans (congrArg some gR_num)
  have fin : Hid (Below B w (((w5.setCell ⟨b, t * 3 + 2, none⟩ (.slice none 0 0)).setCell ⟨b, t * 3 + 1, none⟩ (.int .u64 wd)).setCell ⟨b, t * 3, none⟩ (.int .i64 ((nx : Nat) : Int))) ∧ ∃ wv', RefW B (((w5.setCell ⟨b, t * 3 + 2, none⟩ (.slice none 0 0)).setCell ⟨b, t * 3 + 1, none⟩ (.int .u64 wd)).setCell ⟨b, t * 3, none⟩ (.int .i64 ((nx : Nat) : Int))) b (take s k ⟨t, 1, ad, wd, ow, er⟩) wv') := by
    refine Lib.hid ⟨((((hb5.out.mono hBw.out).setCell (p := ⟨b, t * 3 + 2, none⟩) hR5.out.geb (.slice none 0 0)).setCell (p := ⟨b, t * 3 + 1, none⟩) hR5.out.geb (.int .u64 wd)).setCell (p := ⟨b, t * 3, none⟩) hR5.out.geb (.int .i64 ((nx : Nat) : Int))), (fun i => if i = t then .slice none 0 0 else wv i), hR5.out.set ht (((hR5.out.blk.fset (t * 3 + 2) (.slice none 0 0)).fset (t * 3 + 1) (.int .u64 wd)).fset (t * 3) (.int .i64 ((nx : Nat) : Int))) (gR_ext (s := s) (wv := wv) ht ?_ ?_ ?_ ?_ ?_ ?_) ?_ ?_ (.inr ⟨by simp, by rw [take_same]; simp [tkT]⟩)⟩
    · show (if _ = _ then _ else _) = _
      rw [if_neg (by omega), if_neg (by omega), if_neg (by omega)]
      rw [gR_num]; simp [take]
    · show (if _ = _ then _ else _) = _
      rw [if_pos rfl]
      rw [take_same]
      simp [tkT, hnx.out]
    · show (if _ = _ then _ else _) = _
      rw [if_neg (by omega), if_pos rfl]
      rw [take_same]
      simp [tkT]
    · show (if _ = _ then _ else _) = _
      rw [if_neg (by omega), if_neg (by omega), if_pos rfl]
      simp
    · intro j j1 j2 j3 j4
      show (if _ = _ then _ else _) = _
      rw [if_neg (by omega), if_neg (by omega), if_neg (by omega)]
    · intro i hi
      exact ⟨take_other hi, by simp [hi]⟩
    · intro i hi
      exact ⟨take_other hi, by simp [hi]⟩
    · intro q hq hq2
      rw [Below.heap_setCell _ _ _ _ hq, Below.heap_setCell _ _ _ _ hq, Below.heap_setCell _ _ _ _ hq]
  go_wp2
  go_ret
  exact ⟨rfl, fin.out⟩
set_option maxRecDepth 100000 in
theorem rput_ok4 (h : RefW B w b s wv) (hI : Inv s k) (hkk : k ≤ 1152921504606846976) (hk16 : (k + 1) * 16 ≤ 140737488355328) (hwl : ∀ t, (s.th t).ws.length ≤ k) {t : Nat} (ht : t < 8) {ad wd er : Int} {ow : Bool} (he : EvWf ⟨t, 4, ad, wd, ow, er⟩) {nx : Nat} (hf : fmd ⟨t, 4, ad, wd, ow, er⟩ = true) (htn : tnR (s.th t).how ⟨t, 4, ad, wd, ow, er⟩ = (nx : Int)) (hlk : lkR s (t : Int) = false) (hnm : wordOk (s.th t) s.num ⟨t, 4, ad, wd, ow, er⟩ = true) (how : ownOk (s.th t) ⟨t, 4, ad, wd, ow, er⟩ = true) (hnx : tb (s.th t).how 4 = nx + 1) :
    Calls Try.prog 61 #[.pointer (some ⟨b, 0, none⟩), evV ⟨t, 4, ad, wd, ow, er⟩] w fun x w' => x = .returned (.int .i64 0) ∧ Below B w w' ∧ ∃ wv', RefW B w' b (take s k ⟨t, 4, ad, wd, ow, er⟩) wv' := by
  have C1 := Lib.hid (fun W => rformed_b ⟨t, 4, ad, wd, ow, er⟩ W he.2.2.2.1.1)
  rw [hf] at C1
  have CT := Lib.hid (fun W => turn_b (s.th t).how (hI.bd.how t) ⟨t, 4, ad, wd, ow, er⟩ W)
  rw [htn] at CT
  have CL := Lib.hid (fun W (hW : RefW B W b s wv) => rlocked_b hW (t : Int))
  rw [hlk] at CL
  have CN := Lib.hid (fun W (hW : RefW B W b s wv) => rnumber_b hW ht ⟨t, 4, ad, wd, ow, er⟩ hI.bd.num.1 (Int.le_trans hI.bd.num.2 (by omega)) (hI.bd.sn t).1 (hI.bd.sn t).2)
  rw [hnm] at CN
  have CO := Lib.hid (fun W (hW : RefW B W b s wv) => rown_b hW ht (by have := hwl t; omega) ⟨t, 4, ad, wd, ow, er⟩)
  rw [how] at CO
  have hR1 := Lib.hid (h.alloc (.cells #[.int .i64 t, .int .i64 4, .int .u64 ad, .int .u64 wd, .bool ow, .int .i64 er] 61))
  have hE1 := Lib.hid (Blk.new w 61 #[.int .i64 t, .int .i64 4, .int .u64 ad, .int .u64 wd, .bool ow, .int .i64 er])
  have hb1 := Lib.hid ((Below.refl w.heap.size w).alloc (Nat.le_refl _) (.cells #[.int .i64 t, .int .i64 4, .int .u64 ad, .int .u64 wd, .bool ow, .int .i64 er] 61))
  have hBw : Hid (B ≤ w.heap.size) := Lib.hid (Nat.le_trans h.geb (Nat.le_of_lt h.blk.lt))
  have hne1 : b ≠ w.heap.size := Nat.ne_of_lt h.blk.lt
  have hne2 : w.heap.size ≠ b := (Nat.ne_of_lt h.blk.lt).symm
  replace hf := Lib.hid hf
  replace htn := Lib.hid htn
  replace hlk := Lib.hid hlk
  replace hnm := Lib.hid hnm
  replace how := Lib.hid how
  replace hnx := Lib.hid hnx
  unfold evV at *
  dsimp only at *
  clear h
  have ht' : (t : Int) < 8 := by omega
  go_enter Try.func61, Try.ntmps61
  go_wp2_with fail
  refine (C1.out _).mono ?_
  rintro _ w2 ⟨rfl, hx2⟩
  have hR2 := Lib.hid (hR1.out.below hx2)
  have hE2 := Lib.hid (hE1.out.below hx2 hE1.out.lt)
  have hb2 := Lib.hid (hb1.out.trans (hx2.mono hb1.out.size))
  clear hx2 hR1 hE1 hb1
  clear C1
  have x0 := hE2.out.cell 0
  have x1 := hE2.out.cell 1
  have x2 := hE2.out.cell 2
  have x3 := hE2.out.cell 3
  have x4 := hE2.out.cell 4
  have x5 := hE2.out.cell 5
  simp only [List.getElem?_toArray, List.getElem?_cons_zero, List.getElem?_cons_succ] at x0 x1 x2 x3 x4 x5
  have c0 := (hR2.out.blk.fcell (i := t * 3) (by omega)).trans (congrArg some (gR_how ht))
  go_wp2
  refine wp_region_mixH (fun _ => True) [3, 3, 1, 3, 3, 3, 3] (List.range 7) (by kernel_rfl) (by kernel_rfl) (fun _ _ h => h) trivial ?_
  (repeat ((first | refine wpMixH_pure rfl rfl (fun K hK => ?_) | refine wpMixH_loc rfl rfl (fun K hK => ?_) | refine wpMixH_any rfl rfl (fun K hK => ?_)); go_simp; refine hK _ _ ?_; clear hK K))
  refine wpMixH_nil (fun n1 => ?_)
  go_wp2
  refine wp_region_mixH (fun _ => True) [3, 3, 3, 1, 1, 2, 3] (List.range 7) (by kernel_rfl) (by kernel_rfl) (fun _ _ h => h) trivial ?_
  (repeat ((first | refine wpMixH_pure rfl rfl (fun K hK => ?_) | refine wpMixH_loc rfl rfl (fun K hK => ?_) | refine wpMixH_any rfl rfl (fun K hK => ?_)); go_simp; refine hK _ _ ?_; clear hK K))
  refine wpMixH_loud rfl rfl (fun n2 K hK => ?_)
  go_wp2_with fail
  refine (CT.out _).mono ?_
  rintro _ w3 ⟨rfl, hx⟩
  have hx3 : Below w2.heap.size w2 w3 := ⟨hx.os, hx.tape, hx.output, hx.size, hx.block⟩
  clear hx CT x0 x1 x2 x3 x4 x5 c0
  have hR3 := Lib.hid (hR2.out.below hx3)
  have hE3 := Lib.hid (hE2.out.below hx3 hE2.out.lt)
  have hb3 := Lib.hid (hb2.out.trans (hx3.mono hb2.out.size))
  clear hx3 hR2 hE2 hb2
  have x0 := hE3.out.cell 0
  have x1 := hE3.out.cell 1
  have x2 := hE3.out.cell 2
  have x3 := hE3.out.cell 3
  have x4 := hE3.out.cell 4
  have x5 := hE3.out.cell 5
  simp only [List.getElem?_toArray, List.getElem?_cons_zero, List.getElem?_cons_succ] at x0 x1 x2 x3 x4 x5
  have c0 := (hR3.out.blk.fcell (i := t * 3) (by omega)).trans (congrArg some (gR_how ht))
  go_wp2
  refine hK _ _ (fun _ => trivial) ?_; clear hK K
  (repeat ((first | refine wpMixH_pure rfl rfl (fun K hK => ?_) | refine wpMixH_loc rfl rfl (fun K hK => ?_) | refine wpMixH_any rfl rfl (fun K hK => ?_)); go_simp; refine hK _ _ ?_; clear hK K))
  refine wpMixH_nil (fun n3 => ?_)
  go_wp2_with fail
  refine (CL.out _ (hR3.out.drewN n3)).mono ?_
  rintro _ _ ⟨rfl, rfl⟩
  clear CL
  go_wp2_with fail
  refine (CN.out _ (hR3.out.drewN n3)).mono ?_
  rintro _ w4 ⟨rfl, hx⟩
  have hx4 : Below w3.heap.size w3 w4 := ⟨hx.os, hx.tape, hx.output, hx.size, hx.block⟩
  clear hx CN x0 x1 x2 x3 x4 x5 c0
  have hR4 := Lib.hid (hR3.out.below hx4)
  have hE4 := Lib.hid (hE3.out.below hx4 hE3.out.lt)
  have hb4 := Lib.hid (hb3.out.trans (hx4.mono hb3.out.size))
  clear hx4 hR3 hE3 hb3
  have x0 := hE4.out.cell 0
  have x1 := hE4.out.cell 1
  have x2 := hE4.out.cell 2
  have x3 := hE4.out.cell 3
  have x4 := hE4.out.cell 4
  have x5 := hE4.out.cell 5
  simp only [List.getElem?_toArray, List.getElem?_cons_zero, List.getElem?_cons_succ] at x0 x1 x2 x3 x4 x5
  have c0 := (hR4.out.blk.fcell (i := t * 3) (by omega)).trans (congrArg some (gR_how ht))
  go_wp2_with fail
  refine (CO.out _ hR4.out).mono ?_
  rintro _ w5 ⟨rfl, hx5⟩
  clear CO x0 x1 x2 x3 x4 x5 c0
  have hR5 := Lib.hid (hR4.out.below hx5)
  have hE5 := Lib.hid (hE4.out.below hx5 hE4.out.lt)
  have hb5 := Lib.hid (hb4.out.trans (hx5.mono hb4.out.size))
  clear hx5 hR4 hE4 hb4
  have x0 := hE5.out.cell 0
  have x1 := hE5.out.cell 1
  have x2 := hE5.out.cell 2
  have x3 := hE5.out.cell 3
  have x4 := hE5.out.cell 4
  have x5 := hE5.out.cell 5
  simp only [List.getElem?_toArray, List.getElem?_cons_zero, List.getElem?_cons_succ] at x0 x1 x2 x3 x4 x5
  have c0 := (hR5.out.blk.fcell (i := t * 3) (by omega)).trans (congrArg some (gR_how ht))
  have fz := fun i => hR5.out.blk.frozen i
  have fz0 := fz (t * 3)
  have fz1 := fz (t * 3 + 1)
  have fz2 := fz (t * 3 + 2)
  have fz24 := fz 24
  clear fz
  have c1 := (hR5.out.blk.fcell (i := t * 3 + 1) (by omega)).trans (congrArg some (gR_sn ht))
  have c2 := (hR5.out.blk.fcell (i := t * 3 + 2) (by omega)).trans (congrArg some (gR_ws ht))
  have c24 := (hR5.out.blk.fcell (i := 24) (by omega)).trans (congrArg some gR_num)
  have fin : Hid (Below B w ((w5.setCell ⟨b, t * 3 + 1, none⟩ (.int .u64 wd)).setCell ⟨b, t * 3, none⟩ (.int .i64 ((nx : Nat) : Int))) ∧ ∃ wv', RefW B ((w5.setCell ⟨b, t * 3 + 1, none⟩ (.int .u64 wd)).setCell ⟨b, t * 3, none⟩ (.int .i64 ((nx : Nat) : Int))) b (take s k ⟨t, 4, ad, wd, ow, er⟩) wv') := by
    refine Lib.hid ⟨(((hb5.out.mono hBw.out).setCell (p := ⟨b, t * 3 + 1, none⟩) hR5.out.geb (.int .u64 wd)).setCell (p := ⟨b, t * 3, none⟩) hR5.out.geb (.int .i64 ((nx : Nat) : Int))), wv, hR5.out.set ht ((hR5.out.blk.fset (t * 3 + 1) (.int .u64 wd)).fset (t * 3) (.int .i64 ((nx : Nat) : Int))) (gR_ext (s := s) (wv := wv) ht ?_ ?_ ?_ ?_ ?_ ?_) ?_ ?_ (.inl ⟨rfl, by rw [take_same]; simp [tkT]⟩)⟩
    · show (if _ = _ then _ else _) = _
      rw [if_neg (by omega), if_neg (by omega)]
      rw [gR_num]; simp [take]
    · show (if _ = _ then _ else _) = _
      rw [if_pos rfl]
      rw [take_same]
      simp [tkT, hnx.out]
    · show (if _ = _ then _ else _) = _
      rw [if_neg (by omega), if_pos rfl]
      rw [take_same]
      simp [tkT]
    · show (if _ = _ then _ else _) = _
      rw [if_neg (by omega), if_neg (by omega)]
      rw [gR_ws ht]
    · intro j j1 j2 j3 j4
      show (if _ = _ then _ else _) = _
      rw [if_neg (by omega), if_neg (by omega)]
    · intro i hi
      exact ⟨take_other hi, rfl⟩
    · intro i hi
      exact ⟨take_other hi, rfl⟩
    · intro q hq hq2
      rw [Below.heap_setCell _ _ _ _ hq, Below.heap_setCell _ _ _ _ hq]
  go_wp2
  go_ret
  exact ⟨rfl, fin.out⟩
set_option maxRecDepth 100000 in
theorem rput_ok5 (h : RefW B w b s wv) (hI : Inv s k) (hkk : k ≤ 1152921504606846976) (hk16 : (k + 1) * 16 ≤ 140737488355328) (hwl : ∀ t, (s.th t).ws.length ≤ k) {t : Nat} (ht : t < 8) {ad wd er : Int} {ow : Bool} (he : EvWf ⟨t, 5, ad, wd, ow, er⟩) {nx : Nat} (hf : fmd ⟨t, 5, ad, wd, ow, er⟩ = true) (htn : tnR (s.th t).how ⟨t, 5, ad, wd, ow, er⟩ = (nx : Int)) (hlk : lkR s (t : Int) = false) (hnm : wordOk (s.th t) s.num ⟨t, 5, ad, wd, ow, er⟩ = true) (how : ownOk (s.th t) ⟨t, 5, ad, wd, ow, er⟩ = true) (hnx : tb (s.th t).how 5 = nx + 1) :
    Calls Try.prog 61 #[.pointer (some ⟨b, 0, none⟩), evV ⟨t, 5, ad, wd, ow, er⟩] w fun x w' => x = .returned (.int .i64 0) ∧ Below B w w' ∧ ∃ wv', RefW B w' b (take s k ⟨t, 5, ad, wd, ow, er⟩) wv' := by
  have C1 := Lib.hid (fun W => rformed_b ⟨t, 5, ad, wd, ow, er⟩ W he.2.2.2.1.1)
  rw [hf] at C1
  have CT := Lib.hid (fun W => turn_b (s.th t).how (hI.bd.how t) ⟨t, 5, ad, wd, ow, er⟩ W)
  rw [htn] at CT
  have CL := Lib.hid (fun W (hW : RefW B W b s wv) => rlocked_b hW (t : Int))
  rw [hlk] at CL
  have CN := Lib.hid (fun W (hW : RefW B W b s wv) => rnumber_b hW ht ⟨t, 5, ad, wd, ow, er⟩ hI.bd.num.1 (Int.le_trans hI.bd.num.2 (by omega)) (hI.bd.sn t).1 (hI.bd.sn t).2)
  rw [hnm] at CN
  have CO := Lib.hid (fun W (hW : RefW B W b s wv) => rown_b hW ht (by have := hwl t; omega) ⟨t, 5, ad, wd, ow, er⟩)
  rw [how] at CO
  have hR1 := Lib.hid (h.alloc (.cells #[.int .i64 t, .int .i64 5, .int .u64 ad, .int .u64 wd, .bool ow, .int .i64 er] 61))
  have hE1 := Lib.hid (Blk.new w 61 #[.int .i64 t, .int .i64 5, .int .u64 ad, .int .u64 wd, .bool ow, .int .i64 er])
  have hb1 := Lib.hid ((Below.refl w.heap.size w).alloc (Nat.le_refl _) (.cells #[.int .i64 t, .int .i64 5, .int .u64 ad, .int .u64 wd, .bool ow, .int .i64 er] 61))
  have hBw : Hid (B ≤ w.heap.size) := Lib.hid (Nat.le_trans h.geb (Nat.le_of_lt h.blk.lt))
  have hne1 : b ≠ w.heap.size := Nat.ne_of_lt h.blk.lt
  have hne2 : w.heap.size ≠ b := (Nat.ne_of_lt h.blk.lt).symm
  replace hf := Lib.hid hf
  replace htn := Lib.hid htn
  replace hlk := Lib.hid hlk
  replace hnm := Lib.hid hnm
  replace how := Lib.hid how
  replace hnx := Lib.hid hnx
  unfold evV at *
  dsimp only at *
  clear h
  have ht' : (t : Int) < 8 := by omega
  go_enter Try.func61, Try.ntmps61
  go_wp2_with fail
  refine (C1.out _).mono ?_
  rintro _ w2 ⟨rfl, hx2⟩
  have hR2 := Lib.hid (hR1.out.below hx2)
  have hE2 := Lib.hid (hE1.out.below hx2 hE1.out.lt)
  have hb2 := Lib.hid (hb1.out.trans (hx2.mono hb1.out.size))
  clear hx2 hR1 hE1 hb1
  clear C1
  have x0 := hE2.out.cell 0
  have x1 := hE2.out.cell 1
  have x2 := hE2.out.cell 2
  have x3 := hE2.out.cell 3
  have x4 := hE2.out.cell 4
  have x5 := hE2.out.cell 5
  simp only [List.getElem?_toArray, List.getElem?_cons_zero, List.getElem?_cons_succ] at x0 x1 x2 x3 x4 x5
  have c0 := (hR2.out.blk.fcell (i := t * 3) (by omega)).trans (congrArg some (gR_how ht))
  go_wp2
  refine wp_region_mixH (fun _ => True) [3, 3, 1, 3, 3, 3, 3] (List.range 7) (by kernel_rfl) (by kernel_rfl) (fun _ _ h => h) trivial ?_
  (repeat ((first | refine wpMixH_pure rfl rfl (fun K hK => ?_) | refine wpMixH_loc rfl rfl (fun K hK => ?_) | refine wpMixH_any rfl rfl (fun K hK => ?_)); go_simp; refine hK _ _ ?_; clear hK K))
  refine wpMixH_nil (fun n1 => ?_)
  go_wp2
  refine wp_region_mixH (fun _ => True) [3, 3, 3, 1, 1, 2, 3] (List.range 7) (by kernel_rfl) (by kernel_rfl) (fun _ _ h => h) trivial ?_
  (repeat ((first | refine wpMixH_pure rfl rfl (fun K hK => ?_) | refine wpMixH_loc rfl rfl (fun K hK => ?_) | refine wpMixH_any rfl rfl (fun K hK => ?_)); go_simp; refine hK _ _ ?_; clear hK K))
  refine wpMixH_loud rfl rfl (fun n2 K hK => ?_)
  go_wp2_with fail
  refine (CT.out _).mono ?_
  rintro _ w3 ⟨rfl, hx⟩
  have hx3 : Below w2.heap.size w2 w3 := ⟨hx.os, hx.tape, hx.output, hx.size, hx.block⟩
  clear hx CT x0 x1 x2 x3 x4 x5 c0
  have hR3 := Lib.hid (hR2.out.below hx3)
  have hE3 := Lib.hid (hE2.out.below hx3 hE2.out.lt)
  have hb3 := Lib.hid (hb2.out.trans (hx3.mono hb2.out.size))
  clear hx3 hR2 hE2 hb2
  have x0 := hE3.out.cell 0
  have x1 := hE3.out.cell 1
  have x2 := hE3.out.cell 2
  have x3 := hE3.out.cell 3
  have x4 := hE3.out.cell 4
  have x5 := hE3.out.cell 5
  simp only [List.getElem?_toArray, List.getElem?_cons_zero, List.getElem?_cons_succ] at x0 x1 x2 x3 x4 x5
  have c0 := (hR3.out.blk.fcell (i := t * 3) (by omega)).trans (congrArg some (gR_how ht))
  go_wp2
  refine hK _ _ (fun _ => trivial) ?_; clear hK K
  (repeat ((first | refine wpMixH_pure rfl rfl (fun K hK => ?_) | refine wpMixH_loc rfl rfl (fun K hK => ?_) | refine wpMixH_any rfl rfl (fun K hK => ?_)); go_simp; refine hK _ _ ?_; clear hK K))
  refine wpMixH_nil (fun n3 => ?_)
  go_wp2_with fail
  refine (CL.out _ (hR3.out.drewN n3)).mono ?_
  rintro _ _ ⟨rfl, rfl⟩
  clear CL
  go_wp2_with fail
  refine (CN.out _ (hR3.out.drewN n3)).mono ?_
  rintro _ w4 ⟨rfl, hx⟩
  have hx4 : Below w3.heap.size w3 w4 := ⟨hx.os, hx.tape, hx.output, hx.size, hx.block⟩
  clear hx CN x0 x1 x2 x3 x4 x5 c0
  have hR4 := Lib.hid (hR3.out.below hx4)
  have hE4 := Lib.hid (hE3.out.below hx4 hE3.out.lt)
  have hb4 := Lib.hid (hb3.out.trans (hx4.mono hb3.out.size))
  clear hx4 hR3 hE3 hb3
  have x0 := hE4.out.cell 0
  have x1 := hE4.out.cell 1
  have x2 := hE4.out.cell 2
  have x3 := hE4.out.cell 3
  have x4 := hE4.out.cell 4
  have x5 := hE4.out.cell 5
  simp only [List.getElem?_toArray, List.getElem?_cons_zero, List.getElem?_cons_succ] at x0 x1 x2 x3 x4 x5
  have c0 := (hR4.out.blk.fcell (i := t * 3) (by omega)).trans (congrArg some (gR_how ht))
  go_wp2_with fail
  refine (CO.out _ hR4.out).mono ?_
  rintro _ w5 ⟨rfl, hx5⟩
  clear CO x0 x1 x2 x3 x4 x5 c0
  have hR5 := Lib.hid (hR4.out.below hx5)
  have hE5 := Lib.hid (hE4.out.below hx5 hE4.out.lt)
  have hb5 := Lib.hid (hb4.out.trans (hx5.mono hb4.out.size))
  clear hx5 hR4 hE4 hb4
  have x0 := hE5.out.cell 0
  have x1 := hE5.out.cell 1
  have x2 := hE5.out.cell 2
  have x3 := hE5.out.cell 3
  have x4 := hE5.out.cell 4
  have x5 := hE5.out.cell 5
  simp only [List.getElem?_toArray, List.getElem?_cons_zero, List.getElem?_cons_succ] at x0 x1 x2 x3 x4 x5
  have c0 := (hR5.out.blk.fcell (i := t * 3) (by omega)).trans (congrArg some (gR_how ht))
  have fz := fun i => hR5.out.blk.frozen i
  have fz0 := fz (t * 3)
  have fz1 := fz (t * 3 + 1)
  have fz2 := fz (t * 3 + 2)
  have fz24 := fz 24
  clear fz
  have c1 := (hR5.out.blk.fcell (i := t * 3 + 1) (by omega)).trans (congrArg some (gR_sn ht))
  have c2 := (hR5.out.blk.fcell (i := t * 3 + 2) (by omega)).trans (congrArg some (gR_ws ht))
  have c24 := (hR5.out.blk.fcell (i := 24) (by omega)).trans (congrArg some gR_num)
  have fin : Hid (Below B w (w5.setCell ⟨b, t * 3, none⟩ (.int .i64 ((nx : Nat) : Int))) ∧ ∃ wv', RefW B (w5.setCell ⟨b, t * 3, none⟩ (.int .i64 ((nx : Nat) : Int))) b (take s k ⟨t, 5, ad, wd, ow, er⟩) wv') := by
    refine Lib.hid ⟨((hb5.out.mono hBw.out).setCell (p := ⟨b, t * 3, none⟩) hR5.out.geb (.int .i64 ((nx : Nat) : Int))), wv, hR5.out.set ht (hR5.out.blk.fset (t * 3) (.int .i64 ((nx : Nat) : Int))) (gR_ext (s := s) (wv := wv) ht ?_ ?_ ?_ ?_ ?_ ?_) ?_ ?_ (.inl ⟨rfl, by rw [take_same]; simp [tkT]⟩)⟩
    · show (if _ = _ then _ else _) = _
      rw [if_neg (by omega)]
      rw [gR_num]; simp [take]
    · show (if _ = _ then _ else _) = _
      rw [if_pos rfl]
      rw [take_same]
      simp [tkT, hnx.out]
    · show (if _ = _ then _ else _) = _
      rw [if_neg (by omega)]
      rw [take_same]
      rw [gR_sn ht]
      simp [tkT]
    · show (if _ = _ then _ else _) = _
      rw [if_neg (by omega)]
      rw [gR_ws ht]
    · intro j j1 j2 j3 j4
      show (if _ = _ then _ else _) = _
      rw [if_neg (by omega)]
    · intro i hi
      exact ⟨take_other hi, rfl⟩
    · intro i hi
      exact ⟨take_other hi, rfl⟩
    · intro q hq hq2
      rw [Below.heap_setCell _ _ _ _ hq]
  go_wp2
  go_ret
  exact ⟨rfl, fin.out⟩
set_option maxRecDepth 100000 in
theorem rput_ok6a (h : RefW B w b s wv) (hI : Inv s k) (hkk : k ≤ 1152921504606846976) (hk16 : (k + 1) * 16 ≤ 140737488355328) (hwl : ∀ t, (s.th t).ws.length ≤ k) {t : Nat} (ht : t < 8) {ad wd er : Int} {ow : Bool} (he : EvWf ⟨t, 6, ad, wd, ow, er⟩) {nx : Nat} (hf : fmd ⟨t, 6, ad, wd, ow, er⟩ = true) (htn : tnR (s.th t).how ⟨t, 6, ad, wd, ow, er⟩ = (nx : Int)) (hnm : wordOk (s.th t) s.num ⟨t, 6, ad, wd, ow, er⟩ = true) (how : ownOk (s.th t) ⟨t, 6, ad, wd, ow, er⟩ = true) (hnx : tb (s.th t).how 6 = nx + 1) (h2 : (s.th t).how = 2) :
    Calls Try.prog 61 #[.pointer (some ⟨b, 0, none⟩), evV ⟨t, 6, ad, wd, ow, er⟩] w fun x w' => x = .returned (.int .i64 0) ∧ Below B w w' ∧ ∃ wv', RefW B w' b (take s k ⟨t, 6, ad, wd, ow, er⟩) wv' := by
  have C1 := Lib.hid (fun W => rformed_b ⟨t, 6, ad, wd, ow, er⟩ W he.2.2.2.1.1)
  rw [hf] at C1
  have CT := Lib.hid (fun W => turn_b (s.th t).how (hI.bd.how t) ⟨t, 6, ad, wd, ow, er⟩ W)
  rw [htn] at CT
  have CN := Lib.hid (fun W (hW : RefW B W b s wv) => rnumber_b hW ht ⟨t, 6, ad, wd, ow, er⟩ hI.bd.num.1 (Int.le_trans hI.bd.num.2 (by omega)) (hI.bd.sn t).1 (hI.bd.sn t).2)
  rw [hnm] at CN
  have CO := Lib.hid (fun W (hW : RefW B W b s wv) => rown_b hW ht (by have := hwl t; omega) ⟨t, 6, ad, wd, ow, er⟩)
  rw [how] at CO
  have hR1 := Lib.hid (h.alloc (.cells #[.int .i64 t, .int .i64 6, .int .u64 ad, .int .u64 wd, .bool ow, .int .i64 er] 61))
  have hE1 := Lib.hid (Blk.new w 61 #[.int .i64 t, .int .i64 6, .int .u64 ad, .int .u64 wd, .bool ow, .int .i64 er])
  have hb1 := Lib.hid ((Below.refl w.heap.size w).alloc (Nat.le_refl _) (.cells #[.int .i64 t, .int .i64 6, .int .u64 ad, .int .u64 wd, .bool ow, .int .i64 er] 61))
  have hBw : Hid (B ≤ w.heap.size) := Lib.hid (Nat.le_trans h.geb (Nat.le_of_lt h.blk.lt))
  have hne1 : b ≠ w.heap.size := Nat.ne_of_lt h.blk.lt
  have hne2 : w.heap.size ≠ b := (Nat.ne_of_lt h.blk.lt).symm
  have h21 : (((s.th t).how : Int) == 2) = true := by simp [h2]
  replace h2 := Lib.hid h2
  replace hf := Lib.hid hf
  replace htn := Lib.hid htn
  replace hnm := Lib.hid hnm
  replace how := Lib.hid how
  replace hnx := Lib.hid hnx
  unfold evV at *
  dsimp only at *
  clear h
  have ht' : (t : Int) < 8 := by omega
  go_enter Try.func61, Try.ntmps61
  go_wp2_with fail
  refine (C1.out _).mono ?_
  rintro _ w2 ⟨rfl, hx2⟩
  have hR2 := Lib.hid (hR1.out.below hx2)
  have hE2 := Lib.hid (hE1.out.below hx2 hE1.out.lt)
  have hb2 := Lib.hid (hb1.out.trans (hx2.mono hb1.out.size))
  clear hx2 hR1 hE1 hb1
  clear C1
  have x0 := hE2.out.cell 0
  have x1 := hE2.out.cell 1
  have x2 := hE2.out.cell 2
  have x3 := hE2.out.cell 3
  have x4 := hE2.out.cell 4
  have x5 := hE2.out.cell 5
  simp only [List.getElem?_toArray, List.getElem?_cons_zero, List.getElem?_cons_succ] at x0 x1 x2 x3 x4 x5
  have c0 := (hR2.out.blk.fcell (i := t * 3) (by omega)).trans (congrArg some (gR_how ht))
  go_wp2
  refine wp_region_mixH (fun _ => True) [3, 3, 1, 3, 3, 3, 3] (List.range 7) (by kernel_rfl) (by kernel_rfl) (fun _ _ h => h) trivial ?_
  (repeat ((first | refine wpMixH_pure rfl rfl (fun K hK => ?_) | refine wpMixH_loc rfl rfl (fun K hK => ?_) | refine wpMixH_any rfl rfl (fun K hK => ?_)); go_simp; refine hK _ _ ?_; clear hK K))
  refine wpMixH_nil (fun n1 => ?_)
  go_wp2
  refine wp_region_mixH (fun _ => True) [3, 3, 3, 1, 1, 2, 3] (List.range 7) (by kernel_rfl) (by kernel_rfl) (fun _ _ h => h) trivial ?_
  (repeat ((first | refine wpMixH_pure rfl rfl (fun K hK => ?_) | refine wpMixH_loc rfl rfl (fun K hK => ?_) | refine wpMixH_any rfl rfl (fun K hK => ?_)); go_simp; refine hK _ _ ?_; clear hK K))
  refine wpMixH_loud rfl rfl (fun n2 K hK => ?_)
  go_wp2_with fail
  refine (CT.out _).mono ?_
  rintro _ w3 ⟨rfl, hx⟩
  have hx3 : Below w2.heap.size w2 w3 := ⟨hx.os, hx.tape, hx.output, hx.size, hx.block⟩
  clear hx CT x0 x1 x2 x3 x4 x5 c0
  have hR3 := Lib.hid (hR2.out.below hx3)
  have hE3 := Lib.hid (hE2.out.below hx3 hE2.out.lt)
  have hb3 := Lib.hid (hb2.out.trans (hx3.mono hb2.out.size))
  clear hx3 hR2 hE2 hb2
  have x0 := hE3.out.cell 0
  have x1 := hE3.out.cell 1
  have x2 := hE3.out.cell 2
  have x3 := hE3.out.cell 3
  have x4 := hE3.out.cell 4
  have x5 := hE3.out.cell 5
  simp only [List.getElem?_toArray, List.getElem?_cons_zero, List.getElem?_cons_succ] at x0 x1 x2 x3 x4 x5
  have c0 := (hR3.out.blk.fcell (i := t * 3) (by omega)).trans (congrArg some (gR_how ht))
  go_wp2
  refine hK _ _ (fun _ => trivial) ?_; clear hK K
  (repeat ((first | refine wpMixH_pure rfl rfl (fun K hK => ?_) | refine wpMixH_loc rfl rfl (fun K hK => ?_) | refine wpMixH_any rfl rfl (fun K hK => ?_)); go_simp; refine hK _ _ ?_; clear hK K))
  refine wpMixH_nil (fun n3 => ?_)
  go_wp2_with fail
  refine (CN.out _ (hR3.out.drewN n3)).mono ?_
  rintro _ w4 ⟨rfl, hx⟩
  have hx4 : Below w3.heap.size w3 w4 := ⟨hx.os, hx.tape, hx.output, hx.size, hx.block⟩
  clear hx CN x0 x1 x2 x3 x4 x5 c0
  have hR4 := Lib.hid (hR3.out.below hx4)
  have hE4 := Lib.hid (hE3.out.below hx4 hE3.out.lt)
  have hb4 := Lib.hid (hb3.out.trans (hx4.mono hb3.out.size))
  clear hx4 hR3 hE3 hb3
  have x0 := hE4.out.cell 0
  have x1 := hE4.out.cell 1
  have x2 := hE4.out.cell 2
  have x3 := hE4.out.cell 3
  have x4 := hE4.out.cell 4
  have x5 := hE4.out.cell 5
  simp only [List.getElem?_toArray, List.getElem?_cons_zero, List.getElem?_cons_succ] at x0 x1 x2 x3 x4 x5
  have c0 := (hR4.out.blk.fcell (i := t * 3) (by omega)).trans (congrArg some (gR_how ht))
  go_wp2_with fail
  refine (CO.out _ hR4.out).mono ?_
  rintro _ w5 ⟨rfl, hx5⟩
  clear CO x0 x1 x2 x3 x4 x5 c0
  have hR5 := Lib.hid (hR4.out.below hx5)
  have hE5 := Lib.hid (hE4.out.below hx5 hE4.out.lt)
  have hb5 := Lib.hid (hb4.out.trans (hx5.mono hb4.out.size))
  clear hx5 hR4 hE4 hb4
  have x0 := hE5.out.cell 0
  have x1 := hE5.out.cell 1
  have x2 := hE5.out.cell 2
  have x3 := hE5.out.cell 3
  have x4 := hE5.out.cell 4
  have x5 := hE5.out.cell 5
  simp only [List.getElem?_toArray, List.getElem?_cons_zero, List.getElem?_cons_succ] at x0 x1 x2 x3 x4 x5
  have c0 := (hR5.out.blk.fcell (i := t * 3) (by omega)).trans (congrArg some (gR_how ht))
  have fz := fun i => hR5.out.blk.frozen i
  have fz0 := fz (t * 3)
  have fz1 := fz (t * 3 + 1)
  have fz2 := fz (t * 3 + 2)
  have fz24 := fz 24
  clear fz
  have c1 := (hR5.out.blk.fcell (i := t * 3 + 1) (by omega)).trans (congrArg some (gR_sn ht))
  have c2 := (hR5.out.blk.fcell (i := t * 3 + 2) (by omega)).trans (congrArg some (gR_ws ht))
  have c24 := (hR5.out.blk.fcell (i := 24) (by omega)).trans (congrArg some gR_num)
  have fin : Hid (Below B w ((w5.setCell ⟨b, 24, none⟩ (.int .u64 wd)).setCell ⟨b, t * 3, none⟩ (.int .i64 ((nx : Nat) : Int))) ∧ ∃ wv', RefW B ((w5.setCell ⟨b, 24, none⟩ (.int .u64 wd)).setCell ⟨b, t * 3, none⟩ (.int .i64 ((nx : Nat) : Int))) b (take s k ⟨t, 6, ad, wd, ow, er⟩) wv') := by
    refine Lib.hid ⟨(((hb5.out.mono hBw.out).setCell (p := ⟨b, 24, none⟩) hR5.out.geb (.int .u64 wd)).setCell (p := ⟨b, t * 3, none⟩) hR5.out.geb (.int .i64 ((nx : Nat) : Int))), wv, hR5.out.set ht ((hR5.out.blk.fset (24) (.int .u64 wd)).fset (t * 3) (.int .i64 ((nx : Nat) : Int))) (gR_ext (s := s) (wv := wv) ht ?_ ?_ ?_ ?_ ?_ ?_) ?_ ?_ (.inl ⟨rfl, by rw [take_same]; simp [tkT, h2.out]⟩)⟩
    · show (if _ = _ then _ else _) = _
      rw [if_neg (by omega), if_pos rfl]
      simp [take, h2.out]
    · show (if _ = _ then _ else _) = _
      rw [if_pos rfl]
      rw [take_same]
      simp [tkT, hnx.out]
    · show (if _ = _ then _ else _) = _
      rw [if_neg (by omega), if_neg (by omega)]
      rw [take_same]
      rw [gR_sn ht]
      simp [tkT, h2.out]
    · show (if _ = _ then _ else _) = _
      rw [if_neg (by omega), if_neg (by omega)]
      rw [gR_ws ht]
    · intro j j1 j2 j3 j4
      show (if _ = _ then _ else _) = _
      rw [if_neg (by omega), if_neg (by omega)]
    · intro i hi
      exact ⟨take_other hi, rfl⟩
    · intro i hi
      exact ⟨take_other hi, rfl⟩
    · intro q hq hq2
      rw [Below.heap_setCell _ _ _ _ hq, Below.heap_setCell _ _ _ _ hq]
  go_wp2
  go_ret
  exact ⟨rfl, fin.out⟩
set_option maxRecDepth 100000 in
theorem rput_ok6b (h : RefW B w b s wv) (hI : Inv s k) (hkk : k ≤ 1152921504606846976) (hk16 : (k + 1) * 16 ≤ 140737488355328) (hwl : ∀ t, (s.th t).ws.length ≤ k) {t : Nat} (ht : t < 8) {ad wd er : Int} {ow : Bool} (he : EvWf ⟨t, 6, ad, wd, ow, er⟩) {nx : Nat} (hf : fmd ⟨t, 6, ad, wd, ow, er⟩ = true) (htn : tnR (s.th t).how ⟨t, 6, ad, wd, ow, er⟩ = (nx : Int)) (hnm : wordOk (s.th t) s.num ⟨t, 6, ad, wd, ow, er⟩ = true) (how : ownOk (s.th t) ⟨t, 6, ad, wd, ow, er⟩ = true) (hnx : tb (s.th t).how 6 = nx + 1) (h2 : (s.th t).how ≠ 2) :
    Calls Try.prog 61 #[.pointer (some ⟨b, 0, none⟩), evV ⟨t, 6, ad, wd, ow, er⟩] w fun x w' => x = .returned (.int .i64 0) ∧ Below B w w' ∧ ∃ wv', RefW B w' b (take s k ⟨t, 6, ad, wd, ow, er⟩) wv' := by
  have C1 := Lib.hid (fun W => rformed_b ⟨t, 6, ad, wd, ow, er⟩ W he.2.2.2.1.1)
  rw [hf] at C1
  have CT := Lib.hid (fun W => turn_b (s.th t).how (hI.bd.how t) ⟨t, 6, ad, wd, ow, er⟩ W)
  rw [htn] at CT
  have CN := Lib.hid (fun W (hW : RefW B W b s wv) => rnumber_b hW ht ⟨t, 6, ad, wd, ow, er⟩ hI.bd.num.1 (Int.le_trans hI.bd.num.2 (by omega)) (hI.bd.sn t).1 (hI.bd.sn t).2)
  rw [hnm] at CN
  have CO := Lib.hid (fun W (hW : RefW B W b s wv) => rown_b hW ht (by have := hwl t; omega) ⟨t, 6, ad, wd, ow, er⟩)
  rw [how] at CO
  have hR1 := Lib.hid (h.alloc (.cells #[.int .i64 t, .int .i64 6, .int .u64 ad, .int .u64 wd, .bool ow, .int .i64 er] 61))
  have hE1 := Lib.hid (Blk.new w 61 #[.int .i64 t, .int .i64 6, .int .u64 ad, .int .u64 wd, .bool ow, .int .i64 er])
  have hb1 := Lib.hid ((Below.refl w.heap.size w).alloc (Nat.le_refl _) (.cells #[.int .i64 t, .int .i64 6, .int .u64 ad, .int .u64 wd, .bool ow, .int .i64 er] 61))
  have hBw : Hid (B ≤ w.heap.size) := Lib.hid (Nat.le_trans h.geb (Nat.le_of_lt h.blk.lt))
  have hne1 : b ≠ w.heap.size := Nat.ne_of_lt h.blk.lt
  have hne2 : w.heap.size ≠ b := (Nat.ne_of_lt h.blk.lt).symm
  have h21 : (((s.th t).how : Int) == 2) = false := by simp; omega
  replace h2 := Lib.hid h2
  replace hf := Lib.hid hf
  replace htn := Lib.hid htn
  replace hnm := Lib.hid hnm
  replace how := Lib.hid how
  replace hnx := Lib.hid hnx
  unfold evV at *
  dsimp only at *
  clear h
  have ht' : (t : Int) < 8 := by omega
  go_enter Try.func61, Try.ntmps61
  go_wp2_with fail
  refine (C1.out _).mono ?_
  rintro _ w2 ⟨rfl, hx2⟩
  have hR2 := Lib.hid (hR1.out.below hx2)
  have hE2 := Lib.hid (hE1.out.below hx2 hE1.out.lt)
  have hb2 := Lib.hid (hb1.out.trans (hx2.mono hb1.out.size))
  clear hx2 hR1 hE1 hb1
  clear C1
  have x0 := hE2.out.cell 0
  have x1 := hE2.out.cell 1
  have x2 := hE2.out.cell 2
  have x3 := hE2.out.cell 3
  have x4 := hE2.out.cell 4
  have x5 := hE2.out.cell 5
  simp only [List.getElem?_toArray, List.getElem?_cons_zero, List.getElem?_cons_succ] at x0 x1 x2 x3 x4 x5
  have c0 := (hR2.out.blk.fcell (i := t * 3) (by omega)).trans (congrArg some (gR_how ht))
  go_wp2
  refine wp_region_mixH (fun _ => True) [3, 3, 1, 3, 3, 3, 3] (List.range 7) (by kernel_rfl) (by kernel_rfl) (fun _ _ h => h) trivial ?_
  (repeat ((first | refine wpMixH_pure rfl rfl (fun K hK => ?_) | refine wpMixH_loc rfl rfl (fun K hK => ?_) | refine wpMixH_any rfl rfl (fun K hK => ?_)); go_simp; refine hK _ _ ?_; clear hK K))
  refine wpMixH_nil (fun n1 => ?_)
  go_wp2
  refine wp_region_mixH (fun _ => True) [3, 3, 3, 1, 1, 2, 3] (List.range 7) (by kernel_rfl) (by kernel_rfl) (fun _ _ h => h) trivial ?_
  (repeat ((first | refine wpMixH_pure rfl rfl (fun K hK => ?_) | refine wpMixH_loc rfl rfl (fun K hK => ?_) | refine wpMixH_any rfl rfl (fun K hK => ?_)); go_simp; refine hK _ _ ?_; clear hK K))
  refine wpMixH_loud rfl rfl (fun n2 K hK => ?_)
  go_wp2_with fail
  refine (CT.out _).mono ?_
  rintro _ w3 ⟨rfl, hx⟩
  have hx3 : Below w2.heap.size w2 w3 := ⟨hx.os, hx.tape, hx.output, hx.size, hx.block⟩
  clear hx CT x0 x1 x2 x3 x4 x5 c0
  have hR3 := Lib.hid (hR2.out.below hx3)
  have hE3 := Lib.hid (hE2.out.below hx3 hE2.out.lt)
  have hb3 := Lib.hid (hb2.out.trans (hx3.mono hb2.out.size))
  clear hx3 hR2 hE2 hb2
  have x0 := hE3.out.cell 0
  have x1 := hE3.out.cell 1
  have x2 := hE3.out.cell 2
  have x3 := hE3.out.cell 3
  have x4 := hE3.out.cell 4
  have x5 := hE3.out.cell 5
  simp only [List.getElem?_toArray, List.getElem?_cons_zero, List.getElem?_cons_succ] at x0 x1 x2 x3 x4 x5
  have c0 := (hR3.out.blk.fcell (i := t * 3) (by omega)).trans (congrArg some (gR_how ht))
  go_wp2
  refine hK _ _ (fun _ => trivial) ?_; clear hK K
  (repeat ((first | refine wpMixH_pure rfl rfl (fun K hK => ?_) | refine wpMixH_loc rfl rfl (fun K hK => ?_) | refine wpMixH_any rfl rfl (fun K hK => ?_)); go_simp; refine hK _ _ ?_; clear hK K))
  refine wpMixH_nil (fun n3 => ?_)
  go_wp2_with fail
  refine (CN.out _ (hR3.out.drewN n3)).mono ?_
  rintro _ w4 ⟨rfl, hx⟩
  have hx4 : Below w3.heap.size w3 w4 := ⟨hx.os, hx.tape, hx.output, hx.size, hx.block⟩
  clear hx CN x0 x1 x2 x3 x4 x5 c0
  have hR4 := Lib.hid (hR3.out.below hx4)
  have hE4 := Lib.hid (hE3.out.below hx4 hE3.out.lt)
  have hb4 := Lib.hid (hb3.out.trans (hx4.mono hb3.out.size))
  clear hx4 hR3 hE3 hb3
  have x0 := hE4.out.cell 0
  have x1 := hE4.out.cell 1
  have x2 := hE4.out.cell 2
  have x3 := hE4.out.cell 3
  have x4 := hE4.out.cell 4
  have x5 := hE4.out.cell 5
  simp only [List.getElem?_toArray, List.getElem?_cons_zero, List.getElem?_cons_succ] at x0 x1 x2 x3 x4 x5
  have c0 := (hR4.out.blk.fcell (i := t * 3) (by omega)).trans (congrArg some (gR_how ht))
  go_wp2_with fail
  refine (CO.out _ hR4.out).mono ?_
  rintro _ w5 ⟨rfl, hx5⟩
  clear CO x0 x1 x2 x3 x4 x5 c0
  have hR5 := Lib.hid (hR4.out.below hx5)
  have hE5 := Lib.hid (hE4.out.below hx5 hE4.out.lt)
  have hb5 := Lib.hid (hb4.out.trans (hx5.mono hb4.out.size))
  clear hx5 hR4 hE4 hb4
  have x0 := hE5.out.cell 0
  have x1 := hE5.out.cell 1
  have x2 := hE5.out.cell 2
  have x3 := hE5.out.cell 3
  have x4 := hE5.out.cell 4
  have x5 := hE5.out.cell 5
  simp only [List.getElem?_toArray, List.getElem?_cons_zero, List.getElem?_cons_succ] at x0 x1 x2 x3 x4 x5
  have c0 := (hR5.out.blk.fcell (i := t * 3) (by omega)).trans (congrArg some (gR_how ht))
  have fz := fun i => hR5.out.blk.frozen i
  have fz0 := fz (t * 3)
  have fz1 := fz (t * 3 + 1)
  have fz2 := fz (t * 3 + 2)
  have fz24 := fz 24
  clear fz
  have c1 := (hR5.out.blk.fcell (i := t * 3 + 1) (by omega)).trans (congrArg some (gR_sn ht))
  have c2 := (hR5.out.blk.fcell (i := t * 3 + 2) (by omega)).trans (congrArg some (gR_ws ht))
  have c24 := (hR5.out.blk.fcell (i := 24) (by omega)).trans (congrArg some gR_num)
  have fin : Hid (Below B w (w5.setCell ⟨b, t * 3, none⟩ (.int .i64 ((nx : Nat) : Int))) ∧ ∃ wv', RefW B (w5.setCell ⟨b, t * 3, none⟩ (.int .i64 ((nx : Nat) : Int))) b (take s k ⟨t, 6, ad, wd, ow, er⟩) wv') := by
    refine Lib.hid ⟨((hb5.out.mono hBw.out).setCell (p := ⟨b, t * 3, none⟩) hR5.out.geb (.int .i64 ((nx : Nat) : Int))), wv, hR5.out.set ht (hR5.out.blk.fset (t * 3) (.int .i64 ((nx : Nat) : Int))) (gR_ext (s := s) (wv := wv) ht ?_ ?_ ?_ ?_ ?_ ?_) ?_ ?_ (.inl ⟨rfl, by rw [take_same]; simp [tkT, h2.out]⟩)⟩
    · show (if _ = _ then _ else _) = _
      rw [if_neg (by omega)]
      rw [gR_num]; simp [take, h2.out]
    · show (if _ = _ then _ else _) = _
      rw [if_pos rfl]
      rw [take_same]
      simp [tkT, hnx.out]
    · show (if _ = _ then _ else _) = _
      rw [if_neg (by omega)]
      rw [take_same]
      rw [gR_sn ht]
      simp [tkT, h2.out]
    · show (if _ = _ then _ else _) = _
      rw [if_neg (by omega)]
      rw [gR_ws ht]
    · intro j j1 j2 j3 j4
      show (if _ = _ then _ else _) = _
      rw [if_neg (by omega)]
    · intro i hi
      exact ⟨take_other hi, rfl⟩
    · intro i hi
      exact ⟨take_other hi, rfl⟩
    · intro q hq hq2
      rw [Below.heap_setCell _ _ _ _ hq]
  go_wp2
  go_ret
  exact ⟨rfl, fin.out⟩
set_option maxRecDepth 100000 in
theorem rput_oko (h : RefW B w b s wv) (hI : Inv s k) (hkk : k ≤ 1152921504606846976) (hk16 : (k + 1) * 16 ≤ 140737488355328) (hwl : ∀ t, (s.th t).ws.length ≤ k) {t : Nat} (ht : t < 8) {kd ad wd er : Int} {ow : Bool} (he : EvWf ⟨t, kd, ad, wd, ow, er⟩) (g1 : (kd == 1) = false) (g4 : (kd == 4) = false) (g5 : (kd == 5) = false) (g3 : (kd == 3) = false) (g6 : (kd == 6) = false) {nx : Nat} (hf : fmd ⟨t, kd, ad, wd, ow, er⟩ = true) (htn : tnR (s.th t).how ⟨t, kd, ad, wd, ow, er⟩ = (nx : Int)) (hnm : wordOk (s.th t) s.num ⟨t, kd, ad, wd, ow, er⟩ = true) (how : ownOk (s.th t) ⟨t, kd, ad, wd, ow, er⟩ = true) (hnx : tb (s.th t).how kd = nx + 1) :
    Calls Try.prog 61 #[.pointer (some ⟨b, 0, none⟩), evV ⟨t, kd, ad, wd, ow, er⟩] w fun x w' => x = .returned (.int .i64 0) ∧ Below B w w' ∧ ∃ wv', RefW B w' b (take s k ⟨t, kd, ad, wd, ow, er⟩) wv' := by
  have C1 := Lib.hid (fun W => rformed_b ⟨t, kd, ad, wd, ow, er⟩ W he.2.2.2.1.1)
  rw [hf] at C1
  have CT := Lib.hid (fun W => turn_b (s.th t).how (hI.bd.how t) ⟨t, kd, ad, wd, ow, er⟩ W)
  rw [htn] at CT
  have CN := Lib.hid (fun W (hW : RefW B W b s wv) => rnumber_b hW ht ⟨t, kd, ad, wd, ow, er⟩ hI.bd.num.1 (Int.le_trans hI.bd.num.2 (by omega)) (hI.bd.sn t).1 (hI.bd.sn t).2)
  rw [hnm] at CN
  have CO := Lib.hid (fun W (hW : RefW B W b s wv) => rown_b hW ht (by have := hwl t; omega) ⟨t, kd, ad, wd, ow, er⟩)
  rw [how] at CO
  have hR1 := Lib.hid (h.alloc (.cells #[.int .i64 t, .int .i64 kd, .int .u64 ad, .int .u64 wd, .bool ow, .int .i64 er] 61))
  have hE1 := Lib.hid (Blk.new w 61 #[.int .i64 t, .int .i64 kd, .int .u64 ad, .int .u64 wd, .bool ow, .int .i64 er])
  have hb1 := Lib.hid ((Below.refl w.heap.size w).alloc (Nat.le_refl _) (.cells #[.int .i64 t, .int .i64 kd, .int .u64 ad, .int .u64 wd, .bool ow, .int .i64 er] 61))
  have hBw : Hid (B ≤ w.heap.size) := Lib.hid (Nat.le_trans h.geb (Nat.le_of_lt h.blk.lt))
  have hne1 : b ≠ w.heap.size := Nat.ne_of_lt h.blk.lt
  have hne2 : w.heap.size ≠ b := (Nat.ne_of_lt h.blk.lt).symm
  have q1 : ¬ kd = 1 := by simpa using g1
  have q3 : ¬ kd = 3 := by simpa using g3
  have q4 : ¬ kd = 4 := by simpa using g4
  have q5 : ¬ kd = 5 := by simpa using g5
  have q6 : ¬ kd = 6 := by simpa using g6
  replace hf := Lib.hid hf
  replace htn := Lib.hid htn
  replace hnm := Lib.hid hnm
  replace how := Lib.hid how
  replace hnx := Lib.hid hnx
  unfold evV at *
  dsimp only at *
  clear h
  have ht' : (t : Int) < 8 := by omega
  replace hI := Lib.hid hI
  replace he := Lib.hid he
  go_enter Try.func61, Try.ntmps61
  go_wp2_with fail
  refine (C1.out _).mono ?_
  rintro _ w2 ⟨rfl, hx2⟩
  have hR2 := Lib.hid (hR1.out.below hx2)
  have hE2 := Lib.hid (hE1.out.below hx2 hE1.out.lt)
  have hb2 := Lib.hid (hb1.out.trans (hx2.mono hb1.out.size))
  clear hx2 hR1 hE1 hb1
  clear C1
  have x0 := hE2.out.cell 0
  have x1 := hE2.out.cell 1
  have x2 := hE2.out.cell 2
  have x3 := hE2.out.cell 3
  have x4 := hE2.out.cell 4
  have x5 := hE2.out.cell 5
  simp only [List.getElem?_toArray, List.getElem?_cons_zero, List.getElem?_cons_succ] at x0 x1 x2 x3 x4 x5
  have c0 := (hR2.out.blk.fcell (i := t * 3) (by omega)).trans (congrArg some (gR_how ht))
  go_wp2
  refine wp_region_mixH (fun _ => True) [3, 3, 1, 3, 3, 3, 3] (List.range 7) (by kernel_rfl) (by kernel_rfl) (fun _ _ h => h) trivial ?_
  (repeat ((first | refine wpMixH_pure rfl rfl (fun K hK => ?_) | refine wpMixH_loc rfl rfl (fun K hK => ?_) | refine wpMixH_any rfl rfl (fun K hK => ?_)); go_simp; refine hK _ _ ?_; clear hK K))
  refine wpMixH_nil (fun n1 => ?_)
  go_wp2
  refine wp_region_mixH (fun _ => True) [3, 3, 3, 1, 1, 2, 3] (List.range 7) (by kernel_rfl) (by kernel_rfl) (fun _ _ h => h) trivial ?_
  (repeat ((first | refine wpMixH_pure rfl rfl (fun K hK => ?_) | refine wpMixH_loc rfl rfl (fun K hK => ?_) | refine wpMixH_any rfl rfl (fun K hK => ?_)); go_simp; refine hK _ _ ?_; clear hK K))
  refine wpMixH_loud rfl rfl (fun n2 K hK => ?_)
  go_wp2_with fail
  refine (CT.out _).mono ?_
  rintro _ w3 ⟨rfl, hx⟩
  have hx3 : Below w2.heap.size w2 w3 := ⟨hx.os, hx.tape, hx.output, hx.size, hx.block⟩
  clear hx CT x0 x1 x2 x3 x4 x5 c0
  have hR3 := Lib.hid (hR2.out.below hx3)
  have hE3 := Lib.hid (hE2.out.below hx3 hE2.out.lt)
  have hb3 := Lib.hid (hb2.out.trans (hx3.mono hb2.out.size))
  clear hx3 hR2 hE2 hb2
  have x0 := hE3.out.cell 0
  have x1 := hE3.out.cell 1
  have x2 := hE3.out.cell 2
  have x3 := hE3.out.cell 3
  have x4 := hE3.out.cell 4
  have x5 := hE3.out.cell 5
  simp only [List.getElem?_toArray, List.getElem?_cons_zero, List.getElem?_cons_succ] at x0 x1 x2 x3 x4 x5
  have c0 := (hR3.out.blk.fcell (i := t * 3) (by omega)).trans (congrArg some (gR_how ht))
  go_wp2
  refine hK _ _ (fun _ => trivial) ?_; clear hK K
  (repeat ((first | refine wpMixH_pure rfl rfl (fun K hK => ?_) | refine wpMixH_loc rfl rfl (fun K hK => ?_) | refine wpMixH_any rfl rfl (fun K hK => ?_)); go_simp; refine hK _ _ ?_; clear hK K))
  refine wpMixH_nil (fun n3 => ?_)
  go_wp2_with fail
  refine (CN.out _ (hR3.out.drewN n3)).mono ?_
  rintro _ w4 ⟨rfl, hx⟩
  have hx4 : Below w3.heap.size w3 w4 := ⟨hx.os, hx.tape, hx.output, hx.size, hx.block⟩
  clear hx CN x0 x1 x2 x3 x4 x5 c0
  have hR4 := Lib.hid (hR3.out.below hx4)
  have hE4 := Lib.hid (hE3.out.below hx4 hE3.out.lt)
  have hb4 := Lib.hid (hb3.out.trans (hx4.mono hb3.out.size))
  clear hx4 hR3 hE3 hb3
  have x0 := hE4.out.cell 0
  have x1 := hE4.out.cell 1
  have x2 := hE4.out.cell 2
  have x3 := hE4.out.cell 3
  have x4 := hE4.out.cell 4
  have x5 := hE4.out.cell 5
  simp only [List.getElem?_toArray, List.getElem?_cons_zero, List.getElem?_cons_succ] at x0 x1 x2 x3 x4 x5
  have c0 := (hR4.out.blk.fcell (i := t * 3) (by omega)).trans (congrArg some (gR_how ht))
  go_wp2_with fail
  refine (CO.out _ hR4.out).mono ?_
  rintro _ w5 ⟨rfl, hx5⟩
  clear CO x0 x1 x2 x3 x4 x5 c0
  have hR5 := Lib.hid (hR4.out.below hx5)
  have hE5 := Lib.hid (hE4.out.below hx5 hE4.out.lt)
  have hb5 := Lib.hid (hb4.out.trans (hx5.mono hb4.out.size))
  clear hx5 hR4 hE4 hb4
  have x0 := hE5.out.cell 0
  have x1 := hE5.out.cell 1
  have x2 := hE5.out.cell 2
  have x3 := hE5.out.cell 3
  have x4 := hE5.out.cell 4
  have x5 := hE5.out.cell 5
  simp only [List.getElem?_toArray, List.getElem?_cons_zero, List.getElem?_cons_succ] at x0 x1 x2 x3 x4 x5
  have c0 := (hR5.out.blk.fcell (i := t * 3) (by omega)).trans (congrArg some (gR_how ht))
  have fz := fun i => hR5.out.blk.frozen i
  have fz0 := fz (t * 3)
  have fz1 := fz (t * 3 + 1)
  have fz2 := fz (t * 3 + 2)
  have fz24 := fz 24
  clear fz
  have c1 := (hR5.out.blk.fcell (i := t * 3 + 1) (by omega)).trans (congrArg some (gR_sn ht))
  have c2 := (hR5.out.blk.fcell (i := t * 3 + 2) (by omega)).trans (congrArg some (gR_ws ht))
  have c24 := (hR5.out.blk.fcell (i := 24) (by omega)).trans (congrArg some gR_num)
  have fin : Hid (Below B w (w5.setCell ⟨b, t * 3, none⟩ (.int .i64 ((nx : Nat) : Int))) ∧ ∃ wv', RefW B (w5.setCell ⟨b, t * 3, none⟩ (.int .i64 ((nx : Nat) : Int))) b (take s k ⟨t, kd, ad, wd, ow, er⟩) wv') := by
    refine Lib.hid ⟨((hb5.out.mono hBw.out).setCell (p := ⟨b, t * 3, none⟩) hR5.out.geb (.int .i64 ((nx : Nat) : Int))), wv, hR5.out.set ht (hR5.out.blk.fset (t * 3) (.int .i64 ((nx : Nat) : Int))) (gR_ext (s := s) (wv := wv) ht ?_ ?_ ?_ ?_ ?_ ?_) ?_ ?_ (.inl ⟨rfl, by rw [take_same]; simp [tkT, q1, q3, q4, q5, q6]⟩)⟩
    · show (if _ = _ then _ else _) = _
      rw [if_neg (by omega)]
      rw [gR_num]; simp [take, q1, q3, q4, q5, q6]
    · show (if _ = _ then _ else _) = _
      rw [if_pos rfl]
      rw [take_same]
      simp [tkT, hnx.out]
    · show (if _ = _ then _ else _) = _
      rw [if_neg (by omega)]
      rw [take_same]
      rw [gR_sn ht]
      simp [tkT, q1, q3, q4, q5, q6]
    · show (if _ = _ then _ else _) = _
      rw [if_neg (by omega)]
      rw [gR_ws ht]
    · intro j j1 j2 j3 j4
      show (if _ = _ then _ else _) = _
      rw [if_neg (by omega)]
    · intro i hi
      exact ⟨take_other hi, rfl⟩
    · intro i hi
      exact ⟨take_other hi, rfl⟩
    · intro q hq hq2
      rw [Below.heap_setCell _ _ _ _ hq]
  go_wp2
  go_ret
  exact ⟨rfl, fin.out⟩
set_option maxRecDepth 100000 in
theorem rput_ok3 (h : RefW B w b s wv) (hI : Inv s k) (hkk : k ≤ 1152921504606846976) (hk16 : (k + 1) * 16 ≤ 140737488355328) (hwl : ∀ t, (s.th t).ws.length ≤ k) {t : Nat} (ht : t < 8) {ad wd er : Int} {ow : Bool} (he : EvWf ⟨t, 3, ad, wd, ow, er⟩) {nx : Nat} (hf : fmd ⟨t, 3, ad, wd, ow, er⟩ = true) (htn : tnR (s.th t).how ⟨t, 3, ad, wd, ow, er⟩ = (nx : Int)) (hnm : wordOk (s.th t) s.num ⟨t, 3, ad, wd, ow, er⟩ = true) (how : ownOk (s.th t) ⟨t, 3, ad, wd, ow, er⟩ = true) (hnx : tb (s.th t).how 3 = nx + 1) :
    Calls Try.prog 61 #[.pointer (some ⟨b, 0, none⟩), evV ⟨t, 3, ad, wd, ow, er⟩] w fun x w' => x = .returned (.int .i64 0) ∧ Below B w w' ∧ ∃ wv', RefW B w' b (take s k ⟨t, 3, ad, wd, ow, er⟩) wv' := by
  have C1 := Lib.hid (fun W => rformed_b ⟨t, 3, ad, wd, ow, er⟩ W he.2.2.2.1.1)
  rw [hf] at C1
  have CT := Lib.hid (fun W => turn_b (s.th t).how (hI.bd.how t) ⟨t, 3, ad, wd, ow, er⟩ W)
  rw [htn] at CT
  have CN := Lib.hid (fun W (hW : RefW B W b s wv) => rnumber_b hW ht ⟨t, 3, ad, wd, ow, er⟩ hI.bd.num.1 (Int.le_trans hI.bd.num.2 (by omega)) (hI.bd.sn t).1 (hI.bd.sn t).2)
  rw [hnm] at CN
  have CO := Lib.hid (fun W (hW : RefW B W b s wv) => rown_b hW ht (by have := hwl t; omega) ⟨t, 3, ad, wd, ow, er⟩)
  rw [how] at CO
  have hR1 := Lib.hid (h.alloc (.cells #[.int .i64 t, .int .i64 3, .int .u64 ad, .int .u64 wd, .bool ow, .int .i64 er] 61))
  have hE1 := Lib.hid (Blk.new w 61 #[.int .i64 t, .int .i64 3, .int .u64 ad, .int .u64 wd, .bool ow, .int .i64 er])
  have hb1 := Lib.hid ((Below.refl w.heap.size w).alloc (Nat.le_refl _) (.cells #[.int .i64 t, .int .i64 3, .int .u64 ad, .int .u64 wd, .bool ow, .int .i64 er] 61))
  have hBw : Hid (B ≤ w.heap.size) := Lib.hid (Nat.le_trans h.geb (Nat.le_of_lt h.blk.lt))
  have hne1 : b ≠ w.heap.size := Nat.ne_of_lt h.blk.lt
  have hne2 : w.heap.size ≠ b := (Nat.ne_of_lt h.blk.lt).symm
  replace hf := Lib.hid hf
  replace htn := Lib.hid htn
  replace hnm := Lib.hid hnm
  replace how := Lib.hid how
  replace hnx := Lib.hid hnx
  unfold evV at *
  dsimp only at *
  clear h
  have ht' : (t : Int) < 8 := by omega
  go_enter Try.func61, Try.ntmps61
  go_wp2_with fail
  refine (C1.out _).mono ?_
  rintro _ w2 ⟨rfl, hx2⟩
  have hR2 := Lib.hid (hR1.out.below hx2)
  have hE2 := Lib.hid (hE1.out.below hx2 hE1.out.lt)
  have hb2 := Lib.hid (hb1.out.trans (hx2.mono hb1.out.size))
  clear hx2 hR1 hE1 hb1
  clear C1
  have x0 := hE2.out.cell 0
  have x1 := hE2.out.cell 1
  have x2 := hE2.out.cell 2
  have x3 := hE2.out.cell 3
  have x4 := hE2.out.cell 4
  have x5 := hE2.out.cell 5
  simp only [List.getElem?_toArray, List.getElem?_cons_zero, List.getElem?_cons_succ] at x0 x1 x2 x3 x4 x5
  have c0 := (hR2.out.blk.fcell (i := t * 3) (by omega)).trans (congrArg some (gR_how ht))
  go_wp2
  refine wp_region_mixH (fun _ => True) [3, 3, 1, 3, 3, 3, 3] (List.range 7) (by kernel_rfl) (by kernel_rfl) (fun _ _ h => h) trivial ?_
  (repeat ((first | refine wpMixH_pure rfl rfl (fun K hK => ?_) | refine wpMixH_loc rfl rfl (fun K hK => ?_) | refine wpMixH_any rfl rfl (fun K hK => ?_)); go_simp; refine hK _ _ ?_; clear hK K))
  refine wpMixH_nil (fun n1 => ?_)
  go_wp2
  refine wp_region_mixH (fun _ => True) [3, 3, 3, 1, 1, 2, 3] (List.range 7) (by kernel_rfl) (by kernel_rfl) (fun _ _ h => h) trivial ?_
  (repeat ((first | refine wpMixH_pure rfl rfl (fun K hK => ?_) | refine wpMixH_loc rfl rfl (fun K hK => ?_) | refine wpMixH_any rfl rfl (fun K hK => ?_)); go_simp; refine hK _ _ ?_; clear hK K))
  refine wpMixH_loud rfl rfl (fun n2 K hK => ?_)
  go_wp2_with fail
  refine (CT.out _).mono ?_
  rintro _ w3 ⟨rfl, hx⟩
  have hx3 : Below w2.heap.size w2 w3 := ⟨hx.os, hx.tape, hx.output, hx.size, hx.block⟩
  clear hx CT x0 x1 x2 x3 x4 x5 c0
  have hR3 := Lib.hid (hR2.out.below hx3)
  have hE3 := Lib.hid (hE2.out.below hx3 hE2.out.lt)
  have hb3 := Lib.hid (hb2.out.trans (hx3.mono hb2.out.size))
  clear hx3 hR2 hE2 hb2
  have x0 := hE3.out.cell 0
  have x1 := hE3.out.cell 1
  have x2 := hE3.out.cell 2
  have x3 := hE3.out.cell 3
  have x4 := hE3.out.cell 4
  have x5 := hE3.out.cell 5
  simp only [List.getElem?_toArray, List.getElem?_cons_zero, List.getElem?_cons_succ] at x0 x1 x2 x3 x4 x5
  have c0 := (hR3.out.blk.fcell (i := t * 3) (by omega)).trans (congrArg some (gR_how ht))
  go_wp2
  refine hK _ _ (fun _ => trivial) ?_; clear hK K
  (repeat ((first | refine wpMixH_pure rfl rfl (fun K hK => ?_) | refine wpMixH_loc rfl rfl (fun K hK => ?_) | refine wpMixH_any rfl rfl (fun K hK => ?_)); go_simp; refine hK _ _ ?_; clear hK K))
  refine wpMixH_nil (fun n3 => ?_)
  go_wp2_with fail
  refine (CN.out _ (hR3.out.drewN n3)).mono ?_
  rintro _ w4 ⟨rfl, hx⟩
  have hx4 : Below w3.heap.size w3 w4 := ⟨hx.os, hx.tape, hx.output, hx.size, hx.block⟩
  clear hx CN x0 x1 x2 x3 x4 x5 c0
  have hR4 := Lib.hid (hR3.out.below hx4)
  have hE4 := Lib.hid (hE3.out.below hx4 hE3.out.lt)
  have hb4 := Lib.hid (hb3.out.trans (hx4.mono hb3.out.size))
  clear hx4 hR3 hE3 hb3
  have x0 := hE4.out.cell 0
  have x1 := hE4.out.cell 1
  have x2 := hE4.out.cell 2
  have x3 := hE4.out.cell 3
  have x4 := hE4.out.cell 4
  have x5 := hE4.out.cell 5
  simp only [List.getElem?_toArray, List.getElem?_cons_zero, List.getElem?_cons_succ] at x0 x1 x2 x3 x4 x5
  have c0 := (hR4.out.blk.fcell (i := t * 3) (by omega)).trans (congrArg some (gR_how ht))
  go_wp2_with fail
  refine (CO.out _ hR4.out).mono ?_
  rintro _ w5 ⟨rfl, hx5⟩
  clear CO x0 x1 x2 x3 x4 x5 c0
  have hR5 := Lib.hid (hR4.out.below hx5)
  have hE5 := Lib.hid (hE4.out.below hx5 hE4.out.lt)
  have hb5 := Lib.hid (hb4.out.trans (hx5.mono hb4.out.size))
  clear hx5 hR4 hE4 hb4
  have x0 := hE5.out.cell 0
  have x1 := hE5.out.cell 1
  have x2 := hE5.out.cell 2
  have x3 := hE5.out.cell 3
  have x4 := hE5.out.cell 4
  have x5 := hE5.out.cell 5
  simp only [List.getElem?_toArray, List.getElem?_cons_zero, List.getElem?_cons_succ] at x0 x1 x2 x3 x4 x5
  have c0 := (hR5.out.blk.fcell (i := t * 3) (by omega)).trans (congrArg some (gR_how ht))
  have fz0 := hR5.out.blk.frozen (t * 3)
  have q2 := (hR5.out.blk.fcell (i := t * 3 + 2) (by omega)).trans (congrArg some (gR_ws ht))
  have S1 : Hid (∀ j, (w5.drewN j).cell? ⟨b, t * 3 + 2, none⟩ = some (wv t)) := Lib.hid (fun j => q2)
  have hwl1 : Hid (((s.th t).ws.length + 1) * 16 ≤ 140737488355328) := Lib.hid (by have := hwl t; omega)
  go_wp2
  refine wp_region_mixH (fun W' => W'.cell? ⟨b, t * 3 + 2, none⟩ = some (wv t)) [3, 3, 3, 3, 0, 3, 1, 3, 1, 2, 2, 2, 3, 3, 2] (List.range 15) (by kernel_rfl) (by kernel_rfl) (fun _ _ h => h) (S1.out 0) ?_
  (repeat (first | ((first | refine wpMixH_pure rfl rfl (fun K hK => ?_) | refine wpMixH_loc rfl rfl (fun K hK => ?_) | refine wpMixH_any rfl rfl (fun K hK => ?_)); go_simp; refine hK _ _ ?_; clear hK K) | (refine wpMixH_any rfl rfl (fun K hK => ?_); rw [if_pos (by go_simp)]; apply Exists.intro; refine And.intro (fun w2 hS2 => ?_) (hK _ _ ?_); (focus (obtain hs1 := hS2; go_simp; rfl)); clear hK K)))
  refine wpMixH_loud rfl rfl (fun n4 K hK => ?_)
  go_wp2
  refine hK _ _ (fun _ => (S1.out n4)) ?_; clear hK K
  refine wpMixH_loud rfl rfl (fun n5 K hK => ?_)
  go_wp2
  refine hK _ _ (fun _ => (cell_alloc_ (S1.out (n4 + n5)))) ?_; clear hK K
  refine wpMixH_loud rfl rfl (fun n6 K hK => ?_)
  obtain ⟨wx, hwx⟩ : ∃ wx, wx = (w5.drewN (1 + n4 + n5)).drewN n6 := ⟨_, rfl⟩
  have hsz : wx.heap.size = w5.heap.size := by rw [hwx]; rfl
  have hRX : RefW B wx b s wv := by rw [hwx]; exact ((hR5.out.drewN _).drewN _)
  have hEX : Blk wx w.heap.size 61 #[.int .i64 t, .int .i64 3, .int .u64 ad, .int .u64 wd, .bool ow, .int .i64 er] := by rw [hwx]; exact ((hE5.out.drewN _).drewN _)
  have hBX : Below B w wx := by rw [hwx]; exact below_drewNs (below_drewNs (hb5.out.mono hBw.out) _) _
  have hSX : Sl 45 2 encC wx (wv t) (s.th t).ws := hRX.ws t ht
  rw [show ((((w5.drewN (1 + n4 + n5)).alloc (.cells #[.int .u64 ad, .int .u64 wd] 45)).drewN n6)) = wx.alloc (.cells #[.int .u64 ad, .int .u64 wd] 45) from by rw [hwx]; rfl]
  refine wpList_cellO wx rfl (.tmp 82) (.tmp 88) rfl (wv t) (s.th t).ws (ad, wd) rfl hSX (by show Value.slice (some ⟨w5.heap.size, 0, none⟩) 1 1 = _; rw [hsz]) (by have := hwl1.out; omega) hwl1.out ?_
  intro A6 cap6 w6 hc6 hS6 hF6
  have hb6 := hF6.blk hRX.blk (hRX.nown ht)
  have c6 : w6.cell? ⟨b, t * 3 + 2, none⟩ = some (wv t) := (hb6.fcell (i := t * 3 + 2) (by omega)).trans (congrArg some (gR_ws ht))
  have fz6 := hb6.frozen (t * 3 + 2)
  have fz7 := hb6.frozen (t * 3)
  have c7 := (hb6.fcell (i := t * 3) (by omega)).trans (congrArg some (gR_how ht))
  have hE6 := hF6.blk hEX (hSX.ne_ hEX (by decide))
  have y1 := hE6.cell 1
  simp only [List.getElem?_toArray, List.getElem?_cons_zero, List.getElem?_cons_succ] at y1
  have hB6 : Below B w w6 := hBX.trans (hF6.below (fun q hq => hRX.get t ht q hq) (Nat.le_trans hRX.geb (Nat.le_of_lt hRX.blk.lt)))
  have nb6 : ¬ own (.slice A6 ((s.th t).ws.length + 1) cap6) b := hS6.ne_ hb6 (by decide)
  have fin : Hid (∀ j jj, Below B w ((((w6.drewN j).setCell ⟨b, t * 3 + 2, none⟩ (.slice A6 ((s.th t).ws.length + 1) cap6)).drewN jj).setCell ⟨b, t * 3, none⟩ (.int .i64 ((nx : Nat) : Int))) ∧ ∃ wv', RefW B ((((w6.drewN j).setCell ⟨b, t * 3 + 2, none⟩ (.slice A6 ((s.th t).ws.length + 1) cap6)).drewN jj).setCell ⟨b, t * 3, none⟩ (.int .i64 ((nx : Nat) : Int))) b (take s k ⟨t, 3, ad, wd, ow, er⟩) wv') := by
    refine Lib.hid fun j jj => ⟨(below_drewNs ((below_drewNs hB6 j).setCell (p := ⟨b, t * 3 + 2, none⟩) hRX.geb _) jj).setCell (p := ⟨b, t * 3, none⟩) hRX.geb _, (fun i => if i = t then .slice A6 ((s.th t).ws.length + 1) cap6 else wv i), ?_⟩
    have hbb : Blk ((((w6.drewN j).setCell ⟨b, t * 3 + 2, none⟩ (.slice A6 ((s.th t).ws.length + 1) cap6)).drewN jj).setCell ⟨b, t * 3, none⟩ (.int .i64 ((nx : Nat) : Int))) b 131 _ := Blk.fset (Blk.drewN (Blk.fset (Blk.drewN hb6 j) (t * 3 + 2) (.slice A6 ((s.th t).ws.length + 1) cap6)) jj) (t * 3) (.int .i64 ((nx : Nat) : Int))
    have hh : ∀ q, q ≠ b → ((((w6.drewN j).setCell ⟨b, t * 3 + 2, none⟩ (.slice A6 ((s.th t).ws.length + 1) cap6)).drewN jj).setCell ⟨b, t * 3, none⟩ (.int .i64 ((nx : Nat) : Int))).heap[q]? = w6.heap[q]? := fun q hq => by rw [Below.heap_setCell _ _ _ _ hq, World.heap_drewN, Below.heap_setCell _ _ _ _ hq, World.heap_drewN]
    refine hRX.mk' ht hbb (gR_ext (s := s) (wv := wv) ht ?_ ?_ ?_ ?_ ?_ ?_) ?_ ?_ ?_ ?_
    · show (if _ = _ then _ else _) = _
      rw [if_neg (by omega), if_neg (by omega)]
      rw [gR_num]; simp [take]
    · show (if _ = _ then _ else _) = _
      rw [if_pos rfl, take_same]
      simp [tkT, hnx.out]
    · show (if _ = _ then _ else _) = _
      rw [if_neg (by omega), if_neg (by omega), take_same, gR_sn ht]
      simp [tkT]
    · show (if _ = _ then _ else _) = _
      rw [if_neg (by omega), if_pos rfl]
      simp
    · intro j j1 j2 j3 j4
      show (if _ = _ then _ else _) = _
      rw [if_neg (by omega), if_neg (by omega)]
    · intro i hi
      exact ⟨take_other hi, by simp [hi]⟩
    · intro i hi
      exact ⟨take_other hi, by simp [hi]⟩
    · intro i q hi hit ho
      rw [hh q (fun e => hRX.nown hi (e ▸ ho))]
      exact hF6.block q ((hRX.ws i hi).lt q ho) (hRX.apart i t hi ht hit q ho)
    · rw [take_same]
      simp only [if_true]
      have e : (tkT (s.th t) ⟨t, 3, ad, wd, ow, er⟩ s.tries.length).ws = (s.th t).ws ++ [(ad, wd)] := by simp [tkT]
      rw [e]
      exact hS6.keep fun q ho => hh q (fun e => nb6 (e ▸ ho))
    · intro q ho
      simp only [if_true] at ho
      rcases hF6.new q ho with h1 | h1
      · exact .inl h1
      · exact .inr h1
  clear hRX hEX hBX hSX hS6 hF6 hb6 hE6 hB6 nb6 hR5 hE5 hb5
  replace hwx := Lib.hid hwx
  replace hsz := Lib.hid hsz
  go_wp2
  refine hK _ _ (fun _ => c6) ?_; clear hK K
  (repeat (first | ((first | refine wpMixH_pure rfl rfl (fun K hK => ?_) | refine wpMixH_loc rfl rfl (fun K hK => ?_) | refine wpMixH_any rfl rfl (fun K hK => ?_)); go_simp; refine hK _ _ ?_; clear hK K) | (refine wpMixH_any rfl rfl (fun K hK => ?_); rw [if_pos (by go_simp)]; apply Exists.intro; refine And.intro (fun w2 hS2 => ?_) (hK _ _ ?_); (focus (obtain hs1 := hS2; go_simp; rfl)); clear hK K)))
  refine wpMixH_loud rfl rfl (fun n7 K hK => ?_)
  go_wp2
  refine hK _ _ (fun h => (Bool.false_ne_true ((Eq.symm (by kernel_rfl)).trans h)).elim) ?_; clear hK K
  refine wpMixH_nil (fun n8 => ?_)
  go_wp2
  go_ret
  exact ⟨rfl, fin.out _ _⟩
end
end Go.Proofs.Ytloiadhdkgkjkaa
