/- opaque.Behind by contract, behind see's. -/
import Derived.Test.YtloiadhdkgkjkaaOpK0
import Derived.Test.YtloiadhdkgkjkaaMixH
import Derived.Deep.DeepCutAuto
namespace Go.Proofs.Ytloiadhdkgkjkaa
open Go.RowKit
set_option maxHeartbeats 4000000
set_option linter.unusedVariables false
set_option linter.unusedSimpArgs false
/-- The cells behind n commits. -/
def behindL (cells : Nat → List (Nat × Int)) (n size : Nat) : List Int := (List.range size).map fun a => atW (cells a) n
def behR (cells : Nat → List (Nat × Int)) (n size k : Nat) : List Int := (List.range k).map (fun a => atW (cells a) n) ++ List.replicate (size - k) 0
theorem behR_len {cells : Nat → List (Nat × Int)} {n size k : Nat} (hk : k ≤ size) : (behR cells n size k).length = size := by unfold behR; simp; omega
theorem behR_set {cells : Nat → List (Nat × Int)} {n size k : Nat} (hk : k < size) : (behR cells n size k).set k (atW (cells k) n) = behR cells n size (k + 1) := by
  unfold behR
  obtain ⟨m, hm⟩ : ∃ m, size - k = m + 1 := ⟨size - k - 1, by omega⟩
  rw [hm, show size - (k + 1) = m by omega, List.replicate_succ, List.range_succ, List.map_append, List.append_assoc]
  rw [List.set_append_right _ _ (by simp)]
  simp
set_option maxRecDepth 100000 in
theorem behind_b {w : World} {Af A : Option Addr} {first : List Int} {l : List Ev} {cf cp : Nat} (n : Int)
    (SEE : ∀ W, Below w.heap.size w W → Calls Try.prog 26 #[.slice Af first.length cf, .slice A l.length cp] W (SeeP W first l))
    (hJ : seeOdd first.length l = (-1, 0) → VJ (vn first (rn l l.length).tries l l.length) first.length) (hsz : l.length * 48 + 480 ≤ 140737488355328) :
    Calls Try.prog 15 #[.slice Af first.length cf, .slice A l.length cp, .int .i64 n] w fun x w' => Below w.heap.size w w' ∧ (((seeOdd first.length l).2 ≠ 0 ∧ x = .returned (.tuple #[.slice none 0 0, .agg #[.int .i64 (seeOdd first.length l).1, .int .i64 (seeOdd first.length l).2]])) ∨
      (seeOdd first.length l = (-1, 0) ∧ okTo l l.length ∧ (((n < 0 ∨ ((vn first (rn l l.length).tries l l.length).commits : Int) < n) ∧ x = .returned (.tuple #[.slice none 0 0, .agg #[.int .i64 (-1), .int .i64 2]])) ∨
        (0 ≤ n ∧ n ≤ ((vn first (rn l l.length).tries l l.length).commits : Int) ∧ ∃ ov, x = .returned (.tuple #[ov, .agg #[.int .i64 (-1), .int .i64 0]]) ∧ Wl w' ov (behindL (vn first (rn l l.length).tries l l.length).cells n.toNat first.length) ∧ ∀ q, own ov q → w.heap.size ≤ q)))) := by
  have hR1 := Blk.new w 28 #[.int .i64 0, .int .i64 0]
  have hb1 := (Below.refl w.heap.size w).alloc (Nat.le_refl _) (.cells #[.int .i64 0, .int .i64 0] 28)
  have S1 := Lib.hid (SEE _ hb1)
  replace hR1 := Lib.hid hR1
  replace hb1 := Lib.hid hb1
  replace hJ := Lib.hid hJ
  replace hsz := Lib.hid hsz
  obtain ⟨w1, hw1⟩ : ∃ w1, w1 = w.alloc (.cells #[.int .i64 0, .int .i64 0] 28) := ⟨_, rfl⟩
  rw [← hw1] at hR1 hb1 S1
  replace hw1 := Lib.hid hw1
  clear SEE
  go_enter Try.func15, Try.ntmps15
  go_wp2_with fail
  rw [← hw1.out]
  refine S1.out.mono ?_
  rintro e w2 ⟨hb2, (⟨ho, rfl⟩ | ⟨ho, hok, B, vb, nb, mb, fv, cv, sv, hB, rfl, hV, hVI⟩)⟩
  · obtain ⟨at0, hat0⟩ : ∃ x, (seeOdd first.length l).1 = x := ⟨_, rfl⟩
    obtain ⟨er0, her0⟩ : ∃ x, (seeOdd first.length l).2 = x := ⟨_, rfl⟩
    rw [hat0, her0]
    replace hat0 := Lib.hid hat0
    replace her0 := Lib.hid her0
    have hR2 := hR1.out.below hb2 hR1.out.lt
    have hb3 := Lib.hid ((hb1.out.trans (hb2.mono hb1.out.size)).alloc (hb1.out.trans (hb2.mono hb1.out.size)).size (.cells #[.int .i64 at0, .int .i64 er0] 28))
    have hR3 := hR2.alloc (.cells #[.int .i64 at0, .int .i64 er0] 28)
    have r0 := hR3.cell 0
    have r1 := hR3.cell 1
    have f0 := hR3.frozen 0
    have f1 := hR3.frozen 1
    simp only [List.getElem?_toArray, List.getElem?_cons_zero, List.getElem?_cons_succ] at r0 r1
    have hlt2 := hR2.lt
    have hne2 : w.heap.size ≠ w2.heap.size := by omega
    clear hb2 hR2 hR3 hR1 S1
    replace ho := Lib.hid ho
    go_wp2
    refine wp_region_mixH (fun _ => True) [1, 3, 2] (List.range 3) (by kernel_rfl) (by kernel_rfl) (fun _ _ h => h) trivial ?_
    (repeat ((first | refine wpMixH_pure rfl rfl (fun K hK => ?_) | refine wpMixH_loc rfl rfl (fun K hK => ?_) | refine wpMixH_any rfl rfl (fun K hK => ?_)); go_simp; refine hK _ _ ?_; clear hK K))
    refine wpMixH_loud rfl rfl (fun n1 K hK => ?_)
    go_wp2
    refine hK _ _ (fun _ => trivial) ?_; clear hK K
    refine wpMixH_nil (fun n2 => ?_)
    go_wp2
    refine bodyPost_ret (v := .tuple #[.slice none 0 0, .agg #[.int .i64 at0, .int .i64 er0]]) (by simp [results, Try.results15, go_sem, r0, r1, f0, f1]) rfl ⟨below_drewNs (((below_drewNs hb3.out _).setCell (Nat.le_refl _) _).setCell (Nat.le_refl _) _) _, .inl ⟨ho.out, by rw [hat0.out, her0.out]⟩⟩
  · obtain ⟨vv, hvv⟩ : ∃ vv, vv = vn first (rn l l.length).tries l l.length := ⟨_, rfl⟩
    rw [← hvv] at hV hVI hJ
    have hVJ := Lib.hid (hJ.out ho)
    have hco := Lib.hid (cellsOk hVI hVJ.out (by have := hsz.out; omega))
    have hbw := hb1.out.trans (hb2.mono hb1.out.size)
    have hR2 := hR1.out.below hb2 hR1.out.lt
    have hlt2 := hR2.lt
    obtain ⟨w3, hw3⟩ : ∃ w3, w3 = w2.alloc (.cells #[.int .i64 (-1), .int .i64 0] 28) := ⟨_, rfl⟩
    have hb3 : Below w.heap.size w w3 := by rw [hw3]; exact hbw.alloc hbw.size _
    have hR3 : Blk w3 w.heap.size 28 #[.int .i64 0, .int .i64 0] := by rw [hw3]; exact hR2.alloc _
    have hO3 : Blk w3 w2.heap.size 28 #[.int .i64 (-1), .int .i64 0] := by rw [hw3]; exact Blk.new _ _ _
    have hV3 : VwW B w3 vb nb mb vv first.length fv cv sv := by rw [hw3]; exact hV.alloc _
    have v1 : w3.cell? ⟨vb, 1, none⟩ = some (.int .i64 first.length) := by simpa using hV3.vblk.cell 1
    have v2 := hV3.c2
    have hsl3 : w2.heap.size < w3.heap.size := by rw [hw3]; simp
    have u1 := v1
    have u2 := v2
    rw [hw3] at u1 u2
    have hne2 : w.heap.size ≠ w2.heap.size := by omega
    have hclt : (vv.commits : Int) ≤ 9223372036854775807 := by have := hVI.cm; have := hsz.out; omega
    replace hb3 := Lib.hid hb3
    replace hR3 := Lib.hid hR3
    replace hO3 := Lib.hid hO3
    replace hV3 := Lib.hid hV3
    replace hw3 := Lib.hid hw3
    replace hlt2 := Lib.hid hlt2
    replace hsl3 := Lib.hid hsl3
    replace hvv := Lib.hid hvv
    replace hVI := Lib.hid hVI
    clear hb2 hR2 hbw hV S1 hR1 hb1 hB hJ
    by_cases hneg : n < 0
    ·
      have CO := Lib.hid (fun W => odd_b (-1) 2 W)
      go_wp2_with fail
      rw [← hw3.out]
      refine (CO.out _).mono ?_
      rintro _ w5 ⟨rfl, hb5⟩
      have hR5 := hR3.out.below hb5 hR3.out.lt
      have hbw5 := Lib.hid (hb3.out.trans (hb5.mono hb3.out.size))
      have r0 := (hR5.cell 0).trans (show _ = some (.int .i64 0) from rfl)
      have r1 := (hR5.cell 1).trans (show _ = some (.int .i64 0) from rfl)
      have f0 := hR5.frozen 0
      have f1 := hR5.frozen 1
      clear hb5 hR5
      go_wp2
      refine bodyPost_ret (v := .tuple #[.slice none 0 0, .agg #[.int .i64 (-1), .int .i64 2]]) (by simp [results, Try.results15, go_sem, r0, r1, f0, f1]) rfl ⟨(hbw5.out.setCell (Nat.le_refl _) _).setCell (Nat.le_refl _) _, .inr ⟨ho, hok, .inl ⟨by rw [← hvv.out]; exact .inl hneg, rfl⟩⟩⟩
    · by_cases hbig : (vv.commits : Int) < n
      ·
        have CO := Lib.hid (fun W => odd_b (-1) 2 W)
        go_wp2_with fail
        rw [← hw3.out]
        refine (CO.out _).mono ?_
        rintro _ w5 ⟨rfl, hb5⟩
        have hR5 := hR3.out.below hb5 hR3.out.lt
        have hbw5 := Lib.hid (hb3.out.trans (hb5.mono hb3.out.size))
        have r0 := (hR5.cell 0).trans (show _ = some (.int .i64 0) from rfl)
        have r1 := (hR5.cell 1).trans (show _ = some (.int .i64 0) from rfl)
        have f0 := hR5.frozen 0
        have f1 := hR5.frozen 1
        clear hb5 hR5
        go_wp2
        refine bodyPost_ret (v := .tuple #[.slice none 0 0, .agg #[.int .i64 (-1), .int .i64 2]]) (by simp [results, Try.results15, go_sem, r0, r1, f0, f1]) rfl ⟨(hbw5.out.setCell (Nat.le_refl _) _).setCell (Nat.le_refl _) _, .inr ⟨ho, hok, .inl ⟨by rw [← hvv.out]; exact .inr hbig, rfl⟩⟩⟩
      ·
        obtain ⟨m, rfl⟩ := Int.eq_ofNat_of_zero_le (show 0 ≤ n by omega)
        have hcm : (m : Int) ≤ (vv.commits : Int) := by omega
        have hszl : first.length ≤ 65536 := by
          have := ho
          unfold seeOdd at this
          split at this
          · simp at this
          · omega
        have hfl : (first.length : Int) ≤ 9223372036854775807 := by omega
        go_upto_region 7 with (rw [← hw3.out]; refine wpList_zeros w3 rfl _ _ rfl .i64 .i64 (first.length : Int) (first.length : Int) first.length rfl rfl rfl rfl (by omega) ?_; intro w4 hz4 hb4)
        have hb4' := Lib.hid hb4
        have hz4' := Lib.hid hz4
        clear hz4 hb4 u1 u2 v1 v2
        go_wp2
        go_loopw [39] (fun i wr => ∃ k : Nat, k ≤ first.length ∧ i = .int .i64 k ∧ Hid (Wl wr (.slice (some ⟨w3.heap.size, 0, none⟩) first.length first.length) (behR vv.cells m first.length k)) ∧ Hid (Below w3.heap.size w3 wr)) (fun i _ => first.length - (intOf i).toNat)
        case atStart => exact ⟨0, Nat.zero_le _, rfl, Lib.hid (by have := hz4'.out; simpa [behR] using this), hb4'⟩
        case round =>
          obtain ⟨k, hk, rfl, hW, hbl⟩ := hrel
          clear hz4' hb4'
          by_cases hlt : k < first.length
          · have hW' : Wl wr (.slice (some ⟨w3.heap.size, 0, none⟩) (behR vv.cells m first.length k).length first.length) (behR vv.cells m first.length k) := by rw [behR_len hk]; exact hW.out
            obtain ⟨g, o, hA, hg, hcell, hfz, hset⟩ := hW'.upd (j := k) (by rw [behR_len hk]; exact hlt)
            injection hA with hA
            injection hA with e1 e2
            subst e1 e2
            rw [Nat.zero_add] at hcell hfz
            have hset' := hset (atW (vv.cells k) m)
            rw [Nat.zero_add, behR_set hlt, behR_len hlt] at hset'
            replace hset' := Lib.hid hset'
            have CA := Lib.hid (at_b (hV3.out.below hbl.out) hlt rfl (hco.out.ne k hlt) (hco.out.z k hlt) (hco.out.len k hlt) m)
            generalize atW (vv.cells k) m = y at *
            generalize (behR vv.cells m first.length k).getD k 0 = y0 at *
            have hlt' : (k : Int) < (first.length : Int) := by omega
            have hb5 := Lib.hid (hbl.out.setCell (p := ⟨w3.heap.size, k, none⟩) (Nat.le_refl _) (.int .u64 y))
            clear hset hW' hg hW hbl
            go_wp2_with fail
            refine CA.out.mono ?_
            rintro _ w5 ⟨rfl, rfl⟩
            go_wp2
            go_roundw
            case rel => exact ⟨k + 1, hlt, by go_num, hset', hb5⟩
            case measure => simp [intOf]; omega
          · have hkk : k = first.length := by omega
            subst hkk
            have hO5 := hO3.out.below hbl.out hsl3.out
            have hR5 := hR3.out.below hbl.out (Nat.lt_trans hlt2.out hsl3.out)
            have hbw5 := Lib.hid (hb3.out.trans (hbl.out.mono hb3.out.size))
            have o0 := (hO5.cell 0).trans (show _ = some (.int .i64 (-1)) from rfl)
            have o1 := (hO5.cell 1).trans (show _ = some (.int .i64 0) from rfl)
            have r0 := (hR5.cell 0).trans (show _ = some (.int .i64 0) from rfl)
            have r1 := (hR5.cell 1).trans (show _ = some (.int .i64 0) from rfl)
            have f0 := hR5.frozen 0
            have f1 := hR5.frozen 1
            have hWF : Hid (Wl wr (.slice (some ⟨w3.heap.size, 0, none⟩) first.length first.length) (behindL vv.cells m first.length)) := Lib.hid (by have := hW.out; unfold behR at this; simpa [behindL] using this)
            have hnR : ¬ own (.slice (some ⟨w3.heap.size, 0, none⟩) first.length first.length) w.heap.size := fun h => by
              have h1 : w3.heap.size = w.heap.size := by simpa [own, Value.ownBlock] using h
              have := hlt2.out; have := hsl3.out; omega
            have hfin : Hid (∀ j jj, Wl ((((wr.drewN j).setCell ⟨w.heap.size, 0, none⟩ (.int .i64 (-1))).setCell ⟨w.heap.size, 1, none⟩ (.int .i64 0)).drewN jj) (.slice (some ⟨w3.heap.size, 0, none⟩) first.length first.length) (behindL vv.cells m first.length)) := Lib.hid (fun j jj => (((hWF.out.drewN j).set (p := ⟨w.heap.size, 0, none⟩) hnR _).set (p := ⟨w.heap.size, 1, none⟩) hnR _).drewN jj)
            have hownv : ∀ q, own (.slice (some ⟨w3.heap.size, 0, none⟩) first.length first.length) q → w.heap.size ≤ q := fun q h => by
              have h1 : w3.heap.size = q := by simpa [own, Value.ownBlock] using h
              have := hlt2.out; have := hsl3.out; omega
            replace hownv := Lib.hid hownv
            clear hO5 hR5 hW hbl
            go_wp2
            refine wp_region_mixH (fun _ => True) [3, 1, 3, 2] (List.range 4) (by kernel_rfl) (by kernel_rfl) (fun _ _ h => h) trivial ?_
            (repeat ((first | refine wpMixH_pure rfl rfl (fun K hK => ?_) | refine wpMixH_loc rfl rfl (fun K hK => ?_) | refine wpMixH_any rfl rfl (fun K hK => ?_)); go_simp; refine hK _ _ ?_; clear hK K))
            refine wpMixH_loud rfl rfl (fun n1 K hK => ?_)
            go_wp2
            refine hK _ _ (fun _ => trivial) ?_; clear hK K
            refine wpMixH_nil (fun n2 => ?_)
            go_wp2
            refine bodyPost_ret (v := .tuple #[.slice (some ⟨w3.heap.size, 0, none⟩) first.length first.length, .agg #[.int .i64 (-1), .int .i64 0]]) (by simp [results, Try.results15, go_sem, r0, r1, f0, f1]) rfl ⟨below_drewNs (((below_drewNs hbw5.out _).setCell (Nat.le_refl _) _).setCell (Nat.le_refl _) _) _, .inr ⟨ho, hok, .inr ⟨by omega, by rw [← hvv.out]; exact hcm, _, rfl, by rw [← hvv.out]; exact hfin.out _ _, hownv.out⟩⟩⟩
end Go.Proofs.Ytloiadhdkgkjkaa
