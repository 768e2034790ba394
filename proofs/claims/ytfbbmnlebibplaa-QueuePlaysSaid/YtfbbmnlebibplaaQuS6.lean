/- QueuePlays: a queue is given back. -/
import Derived.Test.YtfbbmnlebibplaaQuS1
import Derived.Deep.DeepMust
namespace Go.Proofs.Ytfbbmnlebibplaa
open Go.RowKit
set_option maxHeartbeats 4000000
set_option linter.unusedVariables false
set_option linter.unusedSimpArgs false

set_option maxRecDepth 100000 in
theorem step6_b {B xb t b m L : Nat} {W0 w : World} {v : Value} {ps : Nat → Nat} {X : Nat → Nat → Prop} {s r : St} {qs : List Qr} {back : Nat → List Int} {c on word : Int} (h : Qw B W0 w xb t b v ps X s r qs) (hfs : Fits s) (hfr : Fits r) (hs : Ok s (m + 400000)) (hr : Ok r (m + 400000)) (hi : Qi s.W r.W c qs back) (hL : qs.length + 1 ≤ L) (hLb : L ≤ 5900000000000) (hlw : (s.W.length : Int) ≤ 1000000) (hc : c ≤ 100000) (h0 : 0 < qs.length) (ho : -9223372036854775808 ≤ on ∧ on ≤ 9223372036854775807) (hcl : c ≤ 1000) :
    Calls Try.prog 6 #[.pointer (some ⟨xb, 0, none⟩), .agg #[.int .i64 6, .int .i64 on, .int .u64 word]] w (StepE B W0 xb t b c m L) := by
  obtain ⟨n, hn, en, e1, e2, e3⟩ := which on qs.length h0 (by omega)
  have h1 := h.alloc (.cells #[.int .i64 6, .int .i64 on, .int .u64 word] 35)
  have hbox := Blk.new w 35 #[.int .i64 6, .int .i64 on, .int .u64 word]
  have HX : Hid (∀ i k, X i k → k < w.heap.size) := Lib.hid fun i k hk => h.fam.lt i k hk
  clear h
  have hne : ((qs.length : Int) == 0) = false := by rw [beq_eq_false_iff_ne]; omega
  obtain ⟨A, cp, b1, v1, rfl, hcp, x0, x1, x2, z2, t0, b0, hl⟩ := h1.cells
  obtain ⟨lg, lo, lc, hve, hat⟩ := h1.at_ hn
  rw [Value.slice.injEq] at hve
  obtain ⟨rfl, -, rfl⟩ := hve
  have H1 := Lib.hid h1
  have HBOX := Lib.hid hbox
  have hni : (n : Int) < qs.length := by omega
  have ho1 := ho.1
  have ho2 := ho.2
  clear h1 hbox hl ho
  generalize hlq : qs.length = ln at *
  have HLQ := Lib.hid hlq
  have hz1 : (ln = 0) = False := by simp; omega
  have hz2 : ((ln : Int) = 0) = False := by simp; omega
  clear hlq
  go_enter Try.func6, Try.ntmps6
  go_wp2
  refine wp_region_mix (fun _ => True) [3, 1, 3, 3, 3, 1, 3, 3, 3, 3, 3, 1, 3, 3, 3, 3, 3, 1, 3, 3, 3] (List.range 21) (by kernel_rfl) (by kernel_rfl) (fun _ _ h => h) trivial ?_
  repeat ((first | refine wpMix_pure rfl rfl (fun K hK => ?_) | refine wpMix_loc rfl rfl (fun K hK => ?_) | refine wpMix_any rfl rfl (fun K hK => ?_)); go_simp; refine hK _ _ ?_; clear hK K)
  refine wpMix_nil (fun n1 => ?_)
  have hb01 : Below (w.alloc (.cells #[.int .i64 6, .int .i64 on, .int .u64 word] 35)).heap.size (w.alloc (.cells #[.int .i64 6, .int .i64 on, .int .u64 word] 35)) ((w.alloc (.cells #[.int .i64 6, .int .i64 on, .int .u64 word] 35)).drew.drewN n1) := below_drewNs ((Below.refl _ _).drew) n1
  have H2 := Lib.hid (H1.out.old hb01)
  have hB2 : Blk ((w.alloc (.cells #[.int .i64 6, .int .i64 on, .int .u64 word] 35)).drew.drewN n1) w.heap.size 35 #[.int .i64 6, .int .i64 on, .int .u64 word] := HBOX.out
  clear hb01 x0 x1 x2 z2 t0 b0 hat H1 HBOX e1 e2 en hne hz1 hz2
  generalize (w.alloc (.cells #[.int .i64 6, .int .i64 on, .int .u64 word] 35)).drew.drewN n1 = w2 at *
  generalize w.heap.size = bx at *
  have b2k := hB2.cell 0
  simp only [List.getElem?_toArray, List.getElem?_cons_zero, List.getElem?_cons_succ] at b2k
  have hn' : n < qs.length := by rw [HLQ.out]; exact hn
  obtain ⟨lg2, lo2, lc2, hve2, hat2⟩ := H2.out.at_ hn'
  rw [Value.slice.injEq] at hve2
  obtain ⟨hA2, -, rfl⟩ := hve2
  simp only [Option.some.injEq, Addr.mk.injEq, and_true] at hA2
  obtain ⟨rfl, rfl⟩ := hA2
  obtain ⟨Ay, cy, by1, vy1, hvy, _, y0, y1, y2, zz2, tt0, bb0, hly⟩ := H2.out.cells
  rw [Value.slice.injEq] at hvy
  obtain ⟨rfl, -, rfl⟩ := hvy
  rw [HLQ.out] at y2
  clear hly
  have HB2 := Lib.hid hB2
  have hq2 := H2.out.q n qs[n] (List.getElem?_eq_getElem hn')
  obtain ⟨_, _, _, _, q0, _⟩ := hq2.cells
  obtain ⟨g1, g2, g3, g4⟩ := hi.inn (List.getElem_mem hn') (pcs_hd _)
  simp only at g1 g2 g3 g4
  have hqin : Hid (qs[n] ∈ qs) := Lib.hid (List.getElem_mem hn')
  have hqat : Hid (qs[n]? = some qs[n]) := Lib.hid (List.getElem?_eq_getElem hn')
  have hqe : Hid (qs = qs.take n ++ qs[n] :: qs.drop (n + 1)) := Lib.hid (by rw [List.getElem_cons_drop, List.take_append_drop])
  have hHD : Hid (∀ q', qs.set n q' = qs.take n ++ q' :: qs.drop (n + 1)) := Lib.hid fun q' => by rw [List.set_eq_take_append_cons_drop, if_pos hn']
  have hHE : Hid (qs.eraseIdx n = qs.take n ++ qs.drop (n + 1)) := Lib.hid (List.eraseIdx_eq_take_drop_succ _ _)
  generalize qs[n] = q at *
  clear hq2 hB2
  have hi' : Qi s.W r.W c (qs.take n ++ q :: qs.drop (n + 1)) back := by rw [← hqe.out]; exact hi
  have hcq := hi'.cnt
  obtain ⟨s', back', a1, a2, a3, a4, a5, a6⟩ := qDrop_good (n := m + 300000) (m := m + 300000) (hs.mono (by omega)) hfs (hr.mono (by omega)) hi' (by omega)
  have hnds : Hid (∀ x ∈ q.nodes, 0 ≤ x ∧ x ≤ 18446744073709551615) := Lib.hid fun x hx => by
    have := hi.inn hqin.out (pcs_nd hx)
    simp only at this
    omega
  have HLAW := Lib.hid a1
  have HA3 := Lib.hid a3
  have HI2 := Lib.hid a6
  have HA4 := Lib.hid a4
  clear a1 a3 a4 a5 a6 hi hi'
  go_wp2
  refine wp_region_mix (fun _ => True) [3, 3, 3, 1, 3, 3, 3, 3, 1, 2, 2, 3] (List.range 12) (by kernel_rfl) (by kernel_rfl) (fun _ _ h => h) trivial ?_
  repeat ((first | refine wpMix_pure rfl rfl (fun K hK => ?_) | refine wpMix_loc rfl rfl (fun K hK => ?_) | refine wpMix_any rfl rfl (fun K hK => ?_)); go_simp; refine hK _ _ ?_; clear hK K)
  refine wpMix_loud rfl rfl (fun n5 K hK => ?_)
  go_wp2_with fail
  refine (qudrop_b (n := m + 100000) (H2.out.drewN (1 + n5)).tx hfs (hs.2.mono (by omega)) (by omega) (by omega) (by omega) (Fr.refl _ _)).mono ?_
  rintro _ w6 ⟨er, s6, q6, rfl, f6, bu6, F6, hw6, hm6⟩
  have H6 := Lib.hid ((H2.out.drewN (1 + n5)).step0 hw6 hm6)
  clear hm6 hw6
  clear H2 HB2 HX y0 y1 y2 zz2 tt0 bb0 hat2 b2k q0
  obtain ⟨rfl, rfl⟩ : 0 = er ∧ s' = s6 := by have := HLAW.out.symm.trans q6.out; simpa using this
  go_wp2
  refine hK _ _ (fun _ => trivial) ?_; clear hK K
  repeat ((first | refine wpMix_pure rfl rfl (fun K hK => ?_) | refine wpMix_loc rfl rfl (fun K hK => ?_) | refine wpMix_any rfl rfl (fun K hK => ?_)); go_simp; refine hK _ _ ?_; clear hK K)
  refine wpMix_loud rfl rfl (fun n6 K hK => ?_)
  go_wp2_with (go_at_call 14; refine (num_b _ _).mono ?_; rintro e _ ⟨rfl, rfl⟩)
  refine hK _ _ (fun _ => trivial) ?_; clear hK K
  repeat ((first | refine wpMix_pure rfl rfl (fun K hK => ?_) | refine wpMix_loc rfl rfl (fun K hK => ?_) | refine wpMix_any rfl rfl (fun K hK => ?_)); go_simp; refine hK _ _ ?_; clear hK K)
  refine wpMix_nil (fun n7 => ?_)
  obtain ⟨w7, hw7⟩ : ∃ v, v = (w6.drewN n6).drewN n7 := ⟨_, rfl⟩
  have H7 := Lib.hid ((H6.out.drewN n6).drewN n7)
  rw [← hw7] at H7
  rw [← hw7]
  clear H6 hw7 q6 HLAW
  obtain ⟨A7, c7, b7, v7, hv7e, hcc7, x0, x1, x2, z2, t0, b0, hl7⟩ := H7.out.cells
  clear hl7 hv7e
  have hq7 := H7.out.q n q hqat.out
  go_wp2_with fail
  refine (refdrop_b (n := m + 300000) H7.out.wl hfr (hr.2.mono (by omega)) (by omega) (by omega) hnds.out hq7 (fun k hk h1 => H7.out.fam.not (i := 3 + n) (j := 1) (by omega) k hk h1) (by omega)).mono ?_
  rintro _ w9 ⟨F9, rfl, ⟨f9, bu9, hw9⟩, hm9⟩
  have H9 := Lib.hid (H7.out.step1 hw9 hm9)
  clear hm9 hw9 hq7 H7 x0 x1 x2 z2 t0 b0 hqin hqat hnds
  obtain ⟨Az, cz, b9, v9, hvz, _, x0, x1, x2, z2, t0, b0, hl9⟩ := H9.out.cells
  rw [Value.slice.injEq] at hvz
  obtain ⟨rfl, -, rfl⟩ := hvz
  rw [HLQ.out] at x2
  clear hl9 t0 b0
  have hrow := H9.out.row
  rw [HLQ.out] at hrow
  have hrow' := Lib.hid hrow
  clear hrow
  obtain ⟨i0, hi0, hz0, hz1, hz3⟩ := info_parts pq_info
  have hcut : Hid (Rowv w9 0 43 1 (.slice (some ⟨lg, lo, none⟩) n n) n ((ptrs ps ln).take n)) := Lib.hid (by
    have := Rowv.cut (m := n) (c := n) hrow'.out (by omega) (Nat.le_refl _) (by omega)
    simpa using this)
  have hni2 : (n : Int) + 1 ≤ ln := by omega
  have hncp : (n : Int) + 1 ≤ cp := by omega
  have hwr : IntKind.i64.wrap ((n : Int) + 1) = n + 1 := IntWalk.i64_in _ (by omega)
  have hgrow : ∀ (v' : Value) (w' : World), Rowv w' 0 43 1 v' (n + (ln - (n + 1))) ((ptrs ps ln).take n ++ (ptrs ps ln).drop (n + 1)) → w9.grownBy w' (Value.slice (some ⟨lg, lo, none⟩) n n).ownBlock → (v'.ownBlock = (Value.slice (some ⟨lg, lo, none⟩) n n).ownBlock ∨ ∃ k, v'.ownBlock = some k ∧ w9.heap.size ≤ k) → Hid (∃ ps' X', Qw B W0 (w'.setCell ⟨xb, 2, none⟩ v') xb t b v' ps' X' s' (rGive (rGives q.nodes r) 0 q.hd 3).2 (qs.eraseIdx n)) := fun v' w' h1 h2 h3 => Lib.hid (by
    have h1' : Rowv w' 0 43 1 v' (qs.length - 1) ((ptrs ps qs.length).take n ++ (ptrs ps qs.length).drop (n + 1)) := by rw [HLQ.out, show ln - 1 = n + (ln - (n + 1)) by omega]; exact h1
    exact H9.out.drop hn' h1' (Fr.app (v := .slice (some ⟨lg, lo, none⟩) ln cp) h2 h3))
  have HG := Lib.hid hgrow
  clear hgrow
  have HB9 := Lib.hid H9.out.blk
  have hxv : Hid (some xb ≠ (Value.slice (some ⟨lg, lo, none⟩) n n).ownBlock) := Lib.hid fun e => H9.out.row.ne_ H9.out.blk (by decide) e.symm
  have hsrc : Hid (n + 1 < cp → Src w9 (.slice (some ⟨lg, lo + (n + 1), none⟩) (ln - (n + 1)) (cp - (n + 1))) (ln - (n + 1)) 1 ((ptrs ps ln).drop (n + 1))) := Lib.hid fun hlt => by
    have h1 := (Rowv.behind (m := n + 1) hrow'.out (by omega) hlt).src fun u hu => ptrs_one ps ln u (List.mem_of_mem_drop hu)
    simpa using h1
  have hsrc0 : Hid (cp = n + 1 → Src w9 (.slice (some ⟨lg, lo, none⟩) (ln - (n + 1)) (cp - (n + 1))) (ln - (n + 1)) 1 ((ptrs ps ln).drop (n + 1))) := Lib.hid fun hlt => by
    have h1 := (Rowv.behindAll hrow'.out).src fun u hu => by simp at hu
    have e1 : ln - (n + 1) = 0 := by omega
    have e2 : (ptrs ps ln).drop (n + 1) = [] := List.drop_eq_nil_of_le (by rw [ptrs_len]; omega)
    rw [e1, e2, show cp - (n + 1) = 0 by omega]
    exact h1
  have hbnd : Hid ((n + (ln - (n + 1))) * 8 ≤ 140737488355328) := Lib.hid (by omega)
  have hbnd2 : Hid (n + (ln - (n + 1)) ≤ maxLen) := Lib.hid (by unfold maxLen; omega)
  have hnN : n ≤ cp := by omega
  have hnL : n + 1 ≤ ln := by omega
  have hnC : n + 1 ≤ cp := by omega
  have hn01 : 0 ≤ (n : Int) + 1 := by omega
  have hnt : ((n : Int) + 1).toNat = n + 1 := by omega
  rcases Nat.lt_or_ge (n + 1) cp with hlt | hge
  · have hen : (cp = n + 1) = False := by simp; omega
    go_wp2
    refine wp_region_mix (fun _ => True) [3, 3, 3, 3, 1, 3, 3, 3, 3, 3, 3, 1, 3, 3, 3, 2, 3, 3, 2] (List.range 19) (by kernel_rfl) (by kernel_rfl) (fun _ _ h => h) trivial ?_
    repeat ((first | refine wpMix_pure rfl rfl (fun K hK => ?_) | refine wpMix_loc rfl rfl (fun K hK => ?_) | refine wpMix_any rfl rfl (fun K hK => ?_)); go_simp; refine hK _ _ ?_; clear hK K)
    refine wpMix_loud rfl rfl (fun n10 K hK => ?_)
    refine wpList_app _ rfl (.tmp 395) (.tmp 402) 29 rfl 43 i0 (.pointer none) 1 8 Try.underlying29 hi0 hz0 hz1 hz3 rfl (by decide) 0 (.slice (some ⟨lg, lo, none⟩) n n) n ((ptrs ps ln).take n) rfl (show Rowv (w9.drew.drewN n10) 0 43 1 (.slice (some ⟨lg, lo, none⟩) n n) n ((ptrs ps ln).take n) from hcut.out) (.slice (some ⟨lg, lo + (n + 1), none⟩) (ln - (n + 1)) (cp - (n + 1))) (ln - (n + 1)) ((ptrs ps ln).drop (n + 1)) rfl (show Src (w9.drew.drewN n10) (.slice (some ⟨lg, lo + (n + 1), none⟩) (ln - (n + 1)) (cp - (n + 1))) (ln - (n + 1)) 1 ((ptrs ps ln).drop (n + 1)) from hsrc.out hlt) hbnd2.out hbnd.out (Nat.zero_le _) ?_
    intro v11 w11 hrow11 hgr11 hown11
    obtain ⟨A11, c11, rfl, _, _⟩ := hrow11.shape
    have hgr12 : w9.grownBy w11 (Value.slice (some ⟨lg, lo, none⟩) n n).ownBlock := ⟨hgr11.os, hgr11.tape, hgr11.output, hgr11.size, hgr11.block⟩
    have HQ := HG.out _ w11 hrow11 hgr12 hown11
    have hB11 := HB9.out.grown hgr12 hxv.out
    have z11 := hB11.frozen 2
    have y11 := hB11.cell 2
    simp only [List.getElem?_toArray, List.getElem?_cons_zero, List.getElem?_cons_succ] at y11
    clear hrow11 hgr11 hgr12 hown11 hB11 x0 x1 x2 z2 HG HB9 hcut hsrc hsrc0
    go_wp2
    refine hK _ _ (fun _ => trivial) ?_; clear hK K
    repeat ((first | refine wpMix_pure rfl rfl (fun K hK => ?_) | refine wpMix_loc rfl rfl (fun K hK => ?_) | refine wpMix_any rfl rfl (fun K hK => ?_)); go_simp; refine hK _ _ ?_; clear hK K)
    refine wpMix_loud rfl rfl (fun n12 K hK => ?_)
    go_wp2
    refine hK _ _ (fun _ => trivial) ?_; clear hK K
    refine wpMix_nil (fun n13 => ?_)
    go_wp2
    go_ret
    obtain ⟨ps', X', HQ'⟩ := HQ.out
    exact ⟨rfl, _, ps', X', s', _, _, back', (HQ'.drewN n12).drewN n13, f6, f9, a2.mono (by omega), HA3.out.mono (by omega), by rw [hHE.out]; exact HI2.out, by rw [List.length_eraseIdx, if_pos hn', HLQ.out]; omega, by rw [HA4.out]; exact hlw⟩
  · have hce : cp = n + 1 := by omega
    have hen : (cp = n + 1) = True := by simp [hce]
    have HCE := Lib.hid hce
    clear hce hge
    go_wp2
    refine wp_region_mix (fun _ => True) [3, 3, 3, 3, 1, 3, 3, 3, 3, 3, 3, 1, 3, 3, 3, 2, 3, 3, 2] (List.range 19) (by kernel_rfl) (by kernel_rfl) (fun _ _ h => h) trivial ?_
    repeat ((first | refine wpMix_pure rfl rfl (fun K hK => ?_) | refine wpMix_loc rfl rfl (fun K hK => ?_) | refine wpMix_any rfl rfl (fun K hK => ?_)); go_simp; refine hK _ _ ?_; clear hK K)
    refine wpMix_loud rfl rfl (fun n10 K hK => ?_)
    refine wpList_app _ rfl (.tmp 395) (.tmp 402) 29 rfl 43 i0 (.pointer none) 1 8 Try.underlying29 hi0 hz0 hz1 hz3 rfl (by decide) 0 (.slice (some ⟨lg, lo, none⟩) n n) n ((ptrs ps ln).take n) rfl (show Rowv (w9.drew.drewN n10) 0 43 1 (.slice (some ⟨lg, lo, none⟩) n n) n ((ptrs ps ln).take n) from hcut.out) (.slice (some ⟨lg, lo, none⟩) (ln - (n + 1)) (cp - (n + 1))) (ln - (n + 1)) ((ptrs ps ln).drop (n + 1)) rfl (show Src (w9.drew.drewN n10) (.slice (some ⟨lg, lo, none⟩) (ln - (n + 1)) (cp - (n + 1))) (ln - (n + 1)) 1 ((ptrs ps ln).drop (n + 1)) from hsrc0.out HCE.out) hbnd2.out hbnd.out (Nat.zero_le _) ?_
    intro v11 w11 hrow11 hgr11 hown11
    obtain ⟨A11, c11, rfl, _, _⟩ := hrow11.shape
    have hgr12 : w9.grownBy w11 (Value.slice (some ⟨lg, lo, none⟩) n n).ownBlock := ⟨hgr11.os, hgr11.tape, hgr11.output, hgr11.size, hgr11.block⟩
    have HQ := HG.out _ w11 hrow11 hgr12 hown11
    have hB11 := HB9.out.grown hgr12 hxv.out
    have z11 := hB11.frozen 2
    have y11 := hB11.cell 2
    simp only [List.getElem?_toArray, List.getElem?_cons_zero, List.getElem?_cons_succ] at y11
    clear hrow11 hgr11 hgr12 hown11 hB11 x0 x1 x2 z2 HG HB9 hcut hsrc hsrc0
    go_wp2
    refine hK _ _ (fun _ => trivial) ?_; clear hK K
    repeat ((first | refine wpMix_pure rfl rfl (fun K hK => ?_) | refine wpMix_loc rfl rfl (fun K hK => ?_) | refine wpMix_any rfl rfl (fun K hK => ?_)); go_simp; refine hK _ _ ?_; clear hK K)
    refine wpMix_loud rfl rfl (fun n12 K hK => ?_)
    go_wp2
    refine hK _ _ (fun _ => trivial) ?_; clear hK K
    refine wpMix_nil (fun n13 => ?_)
    go_wp2
    go_ret
    obtain ⟨ps', X', HQ'⟩ := HQ.out
    exact ⟨rfl, _, ps', X', s', _, _, back', (HQ'.drewN n12).drewN n13, f6, f9, a2.mono (by omega), HA3.out.mono (by omega), by rw [hHE.out]; exact HI2.out, by rw [List.length_eraseIdx, if_pos hn', HLQ.out]; omega, by rw [HA4.out]; exact hlw⟩
end Go.Proofs.Ytfbbmnlebibplaa
