/- QueuePlays: a word is put. -/
import Derived.Test.YtfbbmnlebibplaaQuS0
namespace Go.Proofs.Ytfbbmnlebibplaa
open Go.RowKit
set_option maxHeartbeats 4000000
set_option linter.unusedVariables false
set_option linter.unusedSimpArgs false

theorem tmod_pos (x m : Int) (hm : 0 < m) : -m < x.tmod m ∧ x.tmod m < m := by
  have nn : ∀ y : Int, 0 ≤ y → 0 ≤ y.tmod m ∧ y.tmod m < m := by
    intro y hy
    rw [Int.tmod_eq_emod_of_nonneg hy]
    exact ⟨Int.emod_nonneg _ (by omega), Int.emod_lt_of_pos _ hm⟩
  rcases Int.le_total 0 x with h | h
  · have := nn x h; omega
  · have e : x.tmod m = -((-x).tmod m) := by rw [Int.neg_tmod]; simp
    have := nn (-x) (by omega)
    omega
/-- which one: the remainder, not below 0 -/
theorem which (on : Int) (l : Nat) (hl : 0 < l) (hb : l ≤ 5900000000000) : ∃ n : Nat, n < l ∧ (on.tmod (l : Int) + l).tmod l = (n : Int) ∧ IntKind.i64.wrap (on.tmod (l : Int)) = on.tmod l ∧ IntKind.i64.wrap (on.tmod (l : Int) + l) = on.tmod l + l ∧ IntKind.i64.wrap (n : Int) = n := by
  obtain ⟨h1, h2⟩ := tmod_pos on l (by omega)
  have h3 := tmod_pos (on.tmod (l : Int) + l) l (by omega)
  have h4 : 0 ≤ (on.tmod (l : Int) + l).tmod l := by
    rw [Int.tmod_eq_emod_of_nonneg (by omega)]
    exact Int.emod_nonneg _ (by omega)
  refine ⟨((on.tmod (l : Int) + l).tmod l).toNat, by omega, by omega, IntWalk.i64_in _ (by omega), IntWalk.i64_in _ (by omega), IntWalk.i64_in _ (by omega)⟩

set_option maxRecDepth 100000 in
theorem step1_b {B xb t b m L : Nat} {W0 w : World} {v : Value} {ps : Nat → Nat} {X : Nat → Nat → Prop} {s r : St} {qs : List Qr} {back : Nat → List Int} {c on word : Int} (h : Qw B W0 w xb t b v ps X s r qs) (hfs : Fits s) (hfr : Fits r) (hs : Ok s (m + 400000)) (hr : Ok r (m + 400000)) (hi : Qi s.W r.W c qs back) (hL : qs.length + 1 ≤ L) (hLb : L ≤ 5900000000000) (hlw : (s.W.length : Int) ≤ 1000000) (hc : c ≤ 1000000) (h0 : 0 < qs.length) (ho : -9223372036854775808 ≤ on ∧ on ≤ 9223372036854775807) (hwd : 0 ≤ word ∧ word ≤ 18446744073709551615) :
    Calls Try.prog 6 #[.pointer (some ⟨xb, 0, none⟩), .agg #[.int .i64 1, .int .i64 on, .int .u64 word]] w (StepE B W0 xb t b c m L) := by
  obtain ⟨n, hn, en, e1, e2, e3⟩ := which on qs.length h0 (by omega)
  have h1 := h.alloc (.cells #[.int .i64 1, .int .i64 on, .int .u64 word] 35)
  have hbox := Blk.new w 35 #[.int .i64 1, .int .i64 on, .int .u64 word]
  have HX0 : Hid (∀ i k, X i k → k < w.heap.size) := Lib.hid fun i k hk => h.fam.lt i k hk
  clear h
  have hne : ((qs.length : Int) == 0) = false := by rw [beq_eq_false_iff_ne]; omega
  obtain ⟨A, cp, b1, v1, rfl, hcp, x0, x1, x2, z2, t0, b0, hl⟩ := h1.cells
  obtain ⟨lg, lo, lc, hve, hat⟩ := h1.at_ hn
  injection hve with hA _ hcc
  subst hA
  subst hcc
  have H1 := Lib.hid h1
  have HBOX := Lib.hid hbox
  have hni : (n : Int) < qs.length := by omega
  have ho1 := ho.1
  have ho2 := ho.2
  have hl1 := Lib.hid hl
  clear h1 hbox hl ho
  generalize hlq : qs.length = ln at *
  have HLQ := Lib.hid hlq
  have hz1 : (ln = 0) = False := by simp; omega
  have hz2 : ((ln : Int) = 0) = False := by simp; omega
  clear hlq
  go_enter Try.func6, Try.ntmps6
  go_wp2
  refine wp_region_mix (fun _ => True) [3, 1, 3, 3, 3, 1, 3, 3, 3, 3, 3, 1, 3, 3, 3, 3, 3, 1, 3, 3, 3] (List.range 21) (by kernel_rfl) (by kernel_rfl) (fun _ _ h => h) trivial ?_
  repeat ((first | refine wpMix_pure rfl rfl (fun K hK => ?_) | refine wpMix_loc rfl rfl (fun K hK => ?_) | refine wpMix_any rfl rfl (fun K hK => ?_)); go_simp; refine hK _ _ ?_; clear hK K)
  refine wpMix_nil (fun n1 => ?_)
  have hb01 : Below (w.alloc (.cells #[.int .i64 1, .int .i64 on, .int .u64 word] 35)).heap.size (w.alloc (.cells #[.int .i64 1, .int .i64 on, .int .u64 word] 35)) ((w.alloc (.cells #[.int .i64 1, .int .i64 on, .int .u64 word] 35)).drew.drewN n1) := below_drewNs ((Below.refl _ _).drew) n1
  have H2 := Lib.hid (H1.out.old hb01)
  have HX : Hid (∀ i k, X i k → k < w.heap.size) := HX0
  have hB2 : Blk ((w.alloc (.cells #[.int .i64 1, .int .i64 on, .int .u64 word] 35)).drew.drewN n1) w.heap.size 35 #[.int .i64 1, .int .i64 on, .int .u64 word] := HBOX.out
  clear hb01 x0 x1 x2 z2 t0 b0 hat hl1 H1 HBOX e1 e2 en hne hz1 hz2
  generalize (w.alloc (.cells #[.int .i64 1, .int .i64 on, .int .u64 word] 35)).drew.drewN n1 = w2 at *
  generalize w.heap.size = bx at *
  have b2k := hB2.cell 0
  simp only [List.getElem?_toArray, List.getElem?_cons_zero, List.getElem?_cons_succ] at b2k
  obtain ⟨_, _, _, hve2, hat2⟩ := H2.out.at_ (n := n) (by rw [HLQ.out]; exact hn)
  have hn' : n < qs.length := by rw [HLQ.out]; exact hn
  obtain ⟨lg2, lo2, lc2, hve2, hat2⟩ := H2.out.at_ hn'
  injection hve2 with hA2 _ hcc2
  simp only [Option.some.injEq, Addr.mk.injEq, and_true] at hA2
  obtain ⟨rfl, rfl⟩ := hA2
  subst hcc2
  obtain ⟨Ax, cx, bx1, vx1, hvx, _, x0, x1, x2, z2, t0, b0, hl⟩ := (H2.out.alloc (.cells #[] 33)).cells
  obtain ⟨Ay, cy, by1, vy1, hvy, _, y0, y1, y2, zz2, tt0, bb0, hly⟩ := H2.out.cells
  injection hvx with hxa hxb hxc
  subst hxa
  subst hxc
  injection hvy with hya hyb hyc
  subst hya
  subst hyc
  rw [HLQ.out] at x2 y2
  clear hve2 hxb hyb hly
  have HB2 := Lib.hid hB2
  have hl2 := Lib.hid hl
  obtain ⟨A1, c1, rfl, _⟩ := hl
  have hnew : Wl (w2.alloc (.cells #[] 33)) (.slice (some ⟨w2.heap.size, 0, none⟩) 0 0) [] := by simpa [u64s] using Wl.new w2 [] (by simp)
  have HNEW := Lib.hid hnew
  have hlm := Lib.hid (show (([] : List Int).length + s.W.length) * 8 ≤ 140737488355328 by simp; omega)
  clear hnew
  go_upto_region 18 with (at_builtin; go_must (refine wpList_words _ rfl (.tmp 144) (.tmp 154) rfl (.slice (some ⟨w2.heap.size, 0, none⟩) 0 0) (.slice A1 s.W.length c1) [] s.W rfl HNEW.out rfl hl2.out hlm.out ?_; intro A4 c4 w4 hc4 hv4 hf4))
  simp only [List.length_nil, Nat.zero_add, List.nil_append] at hc4 hv4 hf4
  have hb4 : Below w2.heap.size w2 w4 :=
    ((Below.refl _ _).alloc (Nat.le_refl _) (.cells #[] 33)).trans (hf4.below (fun k hk => by
      obtain rfl : w2.heap.size = k := by simpa [own, Value.ownBlock] using hk
      exact Nat.le_refl _) (by simp))
  have ho4 : Hid (∀ k, own (.slice A4 s.W.length c4) k → w2.heap.size ≤ k) := Lib.hid (hf4.ge (B := w2.heap.size) (fun k hk => by
      obtain rfl : w2.heap.size = k := by simpa [own, Value.ownBlock] using hk
      exact Nat.le_refl _) (by simp))
  have H4 := Lib.hid (H2.out.old hb4)
  have hbx := HB2.out.lt
  have HB4 := Lib.hid (HB2.out.below hb4 hbx)
  have hno4 : Hid (∀ i k, own (.slice A4 s.W.length c4) k → ¬ X i k) := Lib.hid fun i k hk hx => by have := ho4.out k hk; have := H2.out.fam.lt i k hx; omega
  have Hv4 := Lib.hid hv4
  clear hb4 hf4 hv4 HNEW hl2 x0 x1 x2 z2 t0 b0 y0 y1 y2 zz2 tt0 bb0 hat2 H2 HB2 b2k hB2
  obtain ⟨Ax, cx, b3, v3, hvx, _, x0, x1, x2, z2, t0, b0, hl4⟩ := H4.out.cells
  have hq4 := H4.out.q n qs[n] (List.getElem?_eq_getElem hn')
  obtain ⟨_, _, _, _, q0, _⟩ := hq4.cells
  obtain ⟨o0, o1, o2⟩ : w4.cell? ⟨bx, 0, none⟩ = some (.int .i64 1) ∧ w4.cell? ⟨bx, 1, none⟩ = some (.int .i64 on) ∧ w4.cell? ⟨bx, 2, none⟩ = some (.int .u64 word) := ⟨HB4.out.cell 0, HB4.out.cell 1, HB4.out.cell 2⟩
  obtain ⟨g1, g2, g3, g4⟩ := hi.inn (List.getElem_mem hn') (pcs_hd _)
  simp only at g1 g2 g3 g4
  have hqe : Hid (qs = qs.take n ++ qs[n] :: qs.drop (n + 1)) := Lib.hid (by rw [List.getElem_cons_drop, List.take_append_drop])
  generalize hqn : qs[n] = q at *
  clear hvx hl4 hq4
  refine wp_region_mix (fun _ => True) [3, 3, 3, 1, 3, 3, 3, 3, 1, 3, 1, 2, 3] (List.range 13) (by kernel_rfl) (by kernel_rfl) (fun _ _ h => h) trivial ?_
  repeat ((first | refine wpMix_pure rfl rfl (fun K hK => ?_) | refine wpMix_loc rfl rfl (fun K hK => ?_) | refine wpMix_any rfl rfl (fun K hK => ?_)); go_simp; refine hK _ _ ?_; clear hK K)
  refine wpMix_loud rfl rfl (fun n5 K hK => ?_)
  go_wp2_with fail
  refine (quput_b (n := m + 300000) (H4.out.drewN (1 + n5)).tx hfs (hs.2.mono (by omega)) (by omega) (by omega) (by omega) hwd.1 hwd.2 (Fr.refl _ _)).mono ?_
  rintro e w6 ⟨er, s6, q6, rfl, f6, bu6, F6, hw6, hm6⟩
  have H6 := Lib.hid ((H4.out.drewN (1 + n5)).step0 hw6 hm6)
  have hbx4 : bx < w4.heap.size := HB4.out.lt
  have HB6 : Hid (Blk w6 bx 35 #[.int .i64 1, .int .i64 on, .int .u64 word]) := Lib.hid (hm6.blk (HB4.out.drewN (1 + n5)) fun hx => by have := HX.out 0 bx hx; omega)
  have Hv6 := Lib.hid ((Hv4.out.drewN (1 + n5)).fr hm6 (hno4.out 0))
  have hno6 : Hid (∀ i k, own (.slice A4 s.W.length c4) k → ¬ upd X 0 F6 i k) := Lib.hid fun i k hk hx => by
    by_cases e : i = 0
    · subst e; rw [upd_eq] at hx; exact (hm6.new k hx).elim (hno4.out 0 k hk) fun h => by have := Hv4.out.lt k hk; simp at h; omega
    · rw [upd_ne _ _ e] at hx; exact hno4.out i k hk hx
  have hbxX : Hid (∀ i, ¬ upd X 0 F6 i bx) := Lib.hid fun i hx => by
    by_cases e : i = 0
    · subst e; rw [upd_eq] at hx; exact (hm6.new bx hx).elim (fun h => by have := HX.out 0 bx h; omega) fun h => by simp at h; omega
    · rw [upd_ne _ _ e] at hx; have := HX.out i bx hx; omega
  have hi' : Qi s.W r.W c (qs.take n ++ q :: qs.drop (n + 1)) back := by rw [← hqe.out]; exact hi
  have hlaw := qPut_law (n := m + 300000) (m := m + 300000) word (hs.mono (by omega)) (hr.mono (by omega)) hi'
  have hset : ∀ q', qs.set n q' = qs.take n ++ q' :: qs.drop (n + 1) := fun q' => by rw [List.set_eq_take_append_cons_drop, if_pos hn']
  have hcq := hi'.cnt
  have hcw := (hi'.st q (by simp)).lnk.len
  have hqm := Lib.hid (H6.out.q n q (by rw [← hqn]; exact List.getElem?_eq_getElem hn'))
  have hHD := Lib.hid hset
  have HI := Lib.hid hi
  clear hset hi hi' hm6 hw6 H4 HB4 Hv4 hno4 HX HX0 x0 x1 x2 z2 t0 b0 q0 o0 o1 o2 hqn
  obtain ⟨o0, o1, o2⟩ : w6.cell? ⟨bx, 0, none⟩ = some (.int .i64 1) ∧ w6.cell? ⟨bx, 1, none⟩ = some (.int .i64 on) ∧ w6.cell? ⟨bx, 2, none⟩ = some (.int .u64 word) := ⟨HB6.out.cell 0, HB6.out.cell 1, HB6.out.cell 2⟩
  obtain ⟨_, _, b6, v6, _, _, x0, x1, x2, z2, t0, b0, hl6⟩ := H6.out.cells
  have HL6 := Lib.hid hl6
  clear hl6
  go_wp2
  refine hK _ _ (fun _ => trivial) ?_; clear hK K
  repeat ((first | refine wpMix_pure rfl rfl (fun K hK => ?_) | refine wpMix_loc rfl rfl (fun K hK => ?_) | refine wpMix_any rfl rfl (fun K hK => ?_)); go_simp; refine hK _ _ ?_; clear hK K)
  refine wpMix_nil (fun n7 => ?_)
  obtain ⟨w7, hw7⟩ : ∃ v, v = w6.drewN n7 := ⟨_, rfl⟩
  have H7 := Lib.hid (H6.out.drewN n7)
  rw [← hw7] at H7
  have HB7 : Hid (Blk w7 bx 35 #[.int .i64 1, .int .i64 on, .int .u64 word]) := Lib.hid (by rw [hw7]; exact HB6.out.drewN n7)
  have Hv7 : Hid (Wl w7 (.slice A4 s.W.length c4) s.W) := Lib.hid (by rw [hw7]; exact Hv6.out.drewN n7)
  have HL7 : Hid (Lies w7 v6 s6.W) := Lib.hid (by rw [hw7]; exact HL6.out.drewN n7)
  rw [← hw7]
  clear hw7 H6 HB6 Hv6 HL6 x0 x1 x2 z2 t0 b0 o0 o1 o2 hqm
  obtain ⟨o0, o1, o2⟩ : w7.cell? ⟨bx, 0, none⟩ = some (.int .i64 1) ∧ w7.cell? ⟨bx, 1, none⟩ = some (.int .i64 on) ∧ w7.cell? ⟨bx, 2, none⟩ = some (.int .u64 word) := ⟨HB7.out.cell 0, HB7.out.cell 1, HB7.out.cell 2⟩
  obtain ⟨_, _, b7, v7, _, _, x0, x1, x2, z2, t0, b0, hl7⟩ := H7.out.cells
  clear hl7
  go_wp2
  refine wp_region_mix (fun _ => True) [3, 3, 3, 3, 1, 3, 1, 2, 3] (List.range 9) (by kernel_rfl) (by kernel_rfl) (fun _ _ h => h) trivial ?_
  repeat ((first | refine wpMix_pure rfl rfl (fun K hK => ?_) | refine wpMix_loc rfl rfl (fun K hK => ?_) | refine wpMix_any rfl rfl (fun K hK => ?_)); go_simp; refine hK _ _ ?_; clear hK K)
  refine wpMix_loud rfl rfl (fun n8 K hK => ?_)
  go_wp2_with fail
  rcases hlaw with ⟨s', r', a1, a2, a3, a4, a5, a6⟩ | ⟨p, s', r', back', a1, a2, a3, a4, a5, a6, a7, a8, a9⟩
  · obtain ⟨rfl, rfl⟩ : 9 = er ∧ s' = s6 := by have := a1.symm.trans q6.out; simpa using this
    have Q2 := Lib.hid a2
    have HI2 : Hid (Qi s'.W r'.W c qs back) := Lib.hid (by rw [a5, a6]; exact HI.out)
    have A5 := Lib.hid a5
    clear a1 a2 a5 a6 q6
    refine (refput_no (n := m + 300000) (H7.out.drewN (1 + n8)).wl hfr (hr.2.mono (by omega)) Q2).mono ?_
    rintro e w9 ⟨F9, rfl, ⟨f9, bu9, hw9⟩, hm9⟩
    have H9 := Lib.hid ((H7.out.drewN (1 + n8)).step1 hw9 hm9)
    have Hv9 := Lib.hid ((Hv7.out.drewN (1 + n8)).fr hm9 (hno6.out 1)).lies
    clear hm9 hw9 H7 HB7 Hv7 HL7 x0 x1 x2 z2 t0 b0 o0 o1 o2
    go_wp2
    refine hK _ _ (fun _ => trivial) ?_; clear hK K
    repeat ((first | refine wpMix_pure rfl rfl (fun K hK => ?_) | refine wpMix_loc rfl rfl (fun K hK => ?_) | refine wpMix_any rfl rfl (fun K hK => ?_)); go_simp; refine hK _ _ ?_; clear hK K)
    refine wpMix_nil (fun n9 => ?_)
    obtain ⟨w10, hw10⟩ : ∃ v, v = w9.drewN n9 := ⟨_, rfl⟩
    have H10 := Lib.hid (H9.out.drewN n9)
    rw [← hw10] at H10
    have Hv10 : Hid (Lies w10 (.slice A4 s.W.length c4) s.W) := Lib.hid (by rw [hw10]; exact Hv9.out.drewN n9)
    rw [← hw10]
    clear hw10 H9 Hv9
    obtain ⟨_, _, b10, v10, _, _, x0, x1, x2, z2, t0, b0, hl10⟩ := H10.out.cells
    rw [A5.out] at hl10
    have HL10 := Lib.hid hl10
    clear hl10
    go_wp2_with (first | (go_at_call 14; refine (num_b _ _).mono ?_; rintro e _ ⟨rfl, rfl⟩) | (go_at_call 8; go_must (refine (same_b Hv10.out HL10.out (by omega)).mono ?_; rintro e _ ⟨rfl, n11, rfl⟩)))
    go_ret
    exact ⟨rfl, _, ps, _, s', r', qs, back, H10.out.drewN n11, f6, f9, a3.mono (by omega), a4.mono (by omega), HI2.out, by omega, by rw [A5.out]; exact hlw⟩
  · obtain ⟨rfl, rfl⟩ : 0 = er ∧ s' = s6 := by have := a1.symm.trans q6.out; simpa using this
    have Q2 := Lib.hid a2
    have HI2 := Lib.hid a9
    have A7 := Lib.hid a7
    clear a1 a2 a7 a8 a9 q6
    have hq7 := H7.out.q n q (by rw [hqe.out, List.getElem?_append_right (by simp; omega)]; simp [Nat.min_eq_left (Nat.le_of_lt hn')])
    obtain ⟨qd, qns, qws⟩ := q
    refine (refput_yes (n := m + 300000) (H7.out.drewN (1 + n8)).wl hfr (hr.2.mono (by omega)) Q2 hwd.1 hwd.2 (hq7.drewN (1 + n8)) (fun k hk h1 => H7.out.fam.not (i := 3 + n) (j := 1) (by omega) k hk h1) (by simp only at hcq; omega) (by simp only at hcq hcw; omega)).mono ?_
    rintro e w9 ⟨F9, X9, rfl, ⟨f9, bu9, hw9⟩, hq9, hd9, hm9⟩
    have H9 := Lib.hid ((H7.out.drewN (1 + n8)).step2 hn' hw9 hq9 hd9 hm9)
    clear hm9 hw9 hq9 hd9 hq7 H7 HB7 Hv7 HL7 x0 x1 x2 z2 t0 b0 o0 o1 o2
    go_wp2
    refine hK _ _ (fun _ => trivial) ?_; clear hK K
    repeat ((first | refine wpMix_pure rfl rfl (fun K hK => ?_) | refine wpMix_loc rfl rfl (fun K hK => ?_) | refine wpMix_any rfl rfl (fun K hK => ?_)); go_simp; refine hK _ _ ?_; clear hK K)
    refine wpMix_nil (fun n9 => ?_)
    go_wp2_with (first | (go_at_call 14; refine (num_b _ _).mono ?_; rintro e _ ⟨rfl, rfl⟩))
    go_ret
    exact ⟨rfl, _, ps, _, s', r', _, back', H9.out.drewN n9, f6, f9, a3.mono (by omega), a4.mono (by omega), by rw [hHD.out]; exact HI2.out, by simp; omega, by rw [A7.out]; exact hlw⟩
end Go.Proofs.Ytfbbmnlebibplaa
