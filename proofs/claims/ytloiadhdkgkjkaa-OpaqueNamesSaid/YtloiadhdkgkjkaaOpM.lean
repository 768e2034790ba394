/- opaque.Check by contract, behind Sights'. -/
import Derived.Test.YtloiadhdkgkjkaaOpL
import Derived.Test.YtloiadhdkgkjkaaMixH
namespace Go.Proofs.Ytloiadhdkgkjkaa
open Go.RowKit
set_option maxHeartbeats 4000000
set_option linter.unusedVariables false
set_option linter.unusedSimpArgs false
/-- What Sights answers. -/
def SigP (w : World) (o : Int × Int) (L : List (Sg × Int)) (x : Ending) (w' : World) : Prop :=
  Below w.heap.size w w' ∧ ((o.2 ≠ 0 ∧ x = .returned (.tuple #[.slice none 0 0, .agg #[.int .i64 o.1, .int .i64 o.2]])) ∨
    (o = (-1, 0) ∧ ∃ ov, x = .returned (.tuple #[ov, .agg #[.int .i64 (-1), .int .i64 0]]) ∧ Sl 40 10 encG w' ov L ∧ ∀ q, own ov q → w.heap.size ≤ q))
set_option maxRecDepth 100000 in
theorem check_b {w : World} {Fv Hv : Value} {o : Int × Int} {L : List (Sg × Int)} (SIG : ∀ W, Below w.heap.size w W → Calls Try.prog 8 #[Fv, Hv] W (SigP W o L)) (hll : L.length ≤ 9223372036854775807) :
    Calls Try.prog 9 #[Fv, Hv] w fun x w' => x = .returned (.tuple #[.int .i64 (if o.2 ≠ 0 then 0 else idxG L), .agg #[.int .i64 o.1, .int .i64 o.2]]) ∧ Below w.heap.size w w' := by
  have hR1 := Blk.new w 28 #[.int .i64 0, .int .i64 0]
  have hb1 := (Below.refl w.heap.size w).alloc (Nat.le_refl _) (.cells #[.int .i64 0, .int .i64 0] 28)
  have S1 := Lib.hid (SIG _ hb1)
  replace hR1 := Lib.hid hR1
  replace hb1 := Lib.hid hb1
  obtain ⟨w1, hw1⟩ : ∃ w1, w1 = w.alloc (.cells #[.int .i64 0, .int .i64 0] 28) := ⟨_, rfl⟩
  rw [← hw1] at hR1 hb1 S1
  replace hw1 := Lib.hid hw1
  replace hll := Lib.hid hll
  clear SIG
  go_enter Try.func9, Try.ntmps9
  go_wp2_with fail
  rw [← hw1.out]
  refine S1.out.mono ?_
  rintro e w2 ⟨hb2, (⟨ho, rfl⟩ | ⟨ho, ov, rfl, hS, hown⟩)⟩
  · obtain ⟨at0, er0⟩ := o
    dsimp only at *
    have hR2 := hR1.out.below hb2 hR1.out.lt
    have hb3 := Lib.hid ((hb1.out.trans (hb2.mono hb1.out.size)).alloc (hb1.out.trans (hb2.mono hb1.out.size)).size (.cells #[.int .i64 at0, .int .i64 er0] 28))
    have hR3 := hR2.alloc (.cells #[.int .i64 at0, .int .i64 er0] 28)
    have r0 := hR3.cell 0
    have r1 := hR3.cell 1
    have f0 := hR3.frozen 0
    have f1 := hR3.frozen 1
    simp only [List.getElem?_toArray, List.getElem?_cons_zero, List.getElem?_cons_succ] at r0 r1
    have hlt2 := hR2.lt
    have hne2 : w.heap.size ≠ w2.heap.size := by omega
    have her : (er0 != 0) = true := by simpa using ho
    clear hb2 hR2 hR3 hR1 S1
    replace ho := Lib.hid ho
    replace hlt2 := Lib.hid hlt2
    go_wp2
    refine wp_region_mixH (fun _ => True) [1, 3, 2] (List.range 3) (by kernel_rfl) (by kernel_rfl) (fun _ _ h => h) trivial ?_
    (repeat ((first | refine wpMixH_pure rfl rfl (fun K hK => ?_) | refine wpMixH_loc rfl rfl (fun K hK => ?_) | refine wpMixH_any rfl rfl (fun K hK => ?_)); go_simp; refine hK _ _ ?_; clear hK K))
    refine wpMixH_loud rfl rfl (fun n1 K hK => ?_)
    go_wp2
    refine hK _ _ (fun _ => trivial) ?_; clear hK K
    refine wpMixH_nil (fun n2 => ?_)
    go_wp2
    refine bodyPost_ret (v := .tuple #[.int .i64 0, .agg #[.int .i64 at0, .int .i64 er0]]) (by simp [results, Try.results9, go_sem, r0, r1, f0, f1]) rfl ⟨by first | rfl | rw [if_pos ho.out], below_drewNs (((below_drewNs hb3.out _).setCell (Nat.le_refl _) _).setCell (Nat.le_refl _) _) _⟩
  · subst ho
    have hR2 := hR1.out.below hb2 hR1.out.lt
    have hbw := hb1.out.trans (hb2.mono hb1.out.size)
    have hlt2 := hR2.lt
    obtain ⟨w3, hw3⟩ : ∃ w3, w3 = w2.alloc (.cells #[.int .i64 (-1), .int .i64 0] 28) := ⟨_, rfl⟩
    have hb3 : Below w.heap.size w w3 := by rw [hw3]; exact hbw.alloc hbw.size _
    have hR3 : Blk w3 w.heap.size 28 #[.int .i64 0, .int .i64 0] := by rw [hw3]; exact hR2.alloc _
    have hO3 : Blk w3 w2.heap.size 28 #[.int .i64 (-1), .int .i64 0] := by rw [hw3]; exact Blk.new _ _ _
    have hS3 : Sl 40 10 encG w3 ov L := by rw [hw3]; exact hS.alloc _
    have CI := Lib.hid (fun J => indexG_b (hS3.drewN J) hll.out)
    have o0 := (hO3.cell 0).trans (show _ = some (.int .i64 (-1)) from rfl)
    have o1 := (hO3.cell 1).trans (show _ = some (.int .i64 0) from rfl)
    have S0 : Hid (∀ J, (w3.drewN J).cell? ⟨w2.heap.size, 0, none⟩ = some (.int .i64 (-1)) ∧ (w3.drewN J).cell? ⟨w2.heap.size, 1, none⟩ = some (.int .i64 0)) := Lib.hid (fun J => ⟨o0, o1⟩)
    have u0 := o0
    have u1 := o1
    rw [hw3] at u0 u1
    have hne2 : w.heap.size ≠ w2.heap.size := by omega
    replace hb3 := Lib.hid hb3
    replace hR3 := Lib.hid hR3
    replace hO3 := Lib.hid hO3
    replace hw3 := Lib.hid hw3
    replace hlt2 := Lib.hid hlt2
    clear hb2 hR2 hbw hS hS3 S1 hR1 hb1 hown
    go_wp2
    rw [← hw3.out]
    refine wp_region_mixH (fun W' => W'.cell? ⟨w2.heap.size, 0, none⟩ = some (.int .i64 (-1)) ∧ W'.cell? ⟨w2.heap.size, 1, none⟩ = some (.int .i64 0)) [3, 2, 0, 3, 2] [0, 2, 1, 3, 4] (by kernel_rfl) (by kernel_rfl) (fun _ _ h => h) (S0.out 1) ?_
    (repeat (first | ((first | refine wpMixH_pure rfl rfl (fun K hK => ?_) | refine wpMixH_loc rfl rfl (fun K hK => ?_) | refine wpMixH_any rfl rfl (fun K hK => ?_)); go_simp; refine hK _ _ ?_; clear hK K) | (refine wpMixH_any rfl rfl (fun K hK => ?_); rw [if_pos (by go_simp)]; apply Exists.intro; refine And.intro (fun w2 hS2 => ?_) (hK _ _ ?_); (focus (obtain ⟨hs1, hs2⟩ := hS2; go_simp; rfl)); clear hK K)))
    refine wpMixH_loud rfl rfl (fun n2 K hK => ?_)
    go_wp2_with fail
    refine (CI.out _).mono ?_
    rintro _ w5 ⟨rfl, hb5⟩
    have hb5' : Below w3.heap.size w3 w5 := ⟨hb5.os, hb5.tape, hb5.output, hb5.size, hb5.block⟩
    have hO5 := hO3.out.below hb5' hO3.out.lt
    have hR5 := hR3.out.below hb5' hR3.out.lt
    have hbw5 := Lib.hid (hb3.out.trans (hb5'.mono hb3.out.size))
    have S5 : w5.cell? ⟨w2.heap.size, 0, none⟩ = some (.int .i64 (-1)) ∧ w5.cell? ⟨w2.heap.size, 1, none⟩ = some (.int .i64 0) := ⟨(hO5.cell 0).trans rfl, (hO5.cell 1).trans rfl⟩
    have r0 := (hR5.cell 0).trans (show _ = some (.int .i64 0) from rfl)
    have r1 := (hR5.cell 1).trans (show _ = some (.int .i64 0) from rfl)
    have f0 := hR5.frozen 0
    have f1 := hR5.frozen 1
    clear hb5 hb5' hO5 hR5 CI
    go_wp2
    refine hK _ _ (fun _ => S5) ?_; clear hK K
    (repeat (first | ((first | refine wpMixH_pure rfl rfl (fun K hK => ?_) | refine wpMixH_loc rfl rfl (fun K hK => ?_) | refine wpMixH_any rfl rfl (fun K hK => ?_)); go_simp; refine hK _ _ ?_; clear hK K) | (refine wpMixH_any rfl rfl (fun K hK => ?_); rw [if_pos (by go_simp)]; apply Exists.intro; refine And.intro (fun w2 hS2 => ?_) (hK _ _ ?_); (focus (obtain ⟨hs1, hs2⟩ := hS2; go_simp; rfl)); clear hK K)))
    refine wpMixH_loud rfl rfl (fun n3 K hK => ?_)
    go_wp2
    refine hK _ _ (fun h => (Bool.false_ne_true ((Eq.symm (by kernel_rfl)).trans h)).elim) ?_; clear hK K
    refine wpMixH_nil (fun n4 => ?_)
    go_wp2
    refine bodyPost_ret (v := .tuple #[.int .i64 (idxG L), .agg #[.int .i64 (-1), .int .i64 0]]) (by simp [results, Try.results9, go_sem, r0, r1, f0, f1]) rfl ⟨by simp, below_drewNs (((below_drewNs hbw5.out _).setCell (Nat.le_refl _) _).setCell (Nat.le_refl _) _) _⟩
end Go.Proofs.Ytloiadhdkgkjkaa
