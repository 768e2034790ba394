/- QueuePlays: the words are told, twice. -/
import Derived.Test.YtfbbmnlebibplaaQuS1
import Derived.Test.YtfbbmnlebibplaaApb
import Derived.Test.YtfbbmnlebibplaaQuRf
namespace Go.Proofs.Ytfbbmnlebibplaa
open Go.RowKit
set_option maxHeartbeats 4000000
set_option linter.unusedVariables false
set_option linter.unusedSimpArgs false

/-- lists of the call's own have turned -/
theorem Qw.side {B : Nat} {W0 w w' : World} {xb t b : Nat} {v : Value} {ps : Nat → Nat} {X : Nat → Nat → Prop} {s r : St} {qs : List Qr} {G G' : Nat → Prop} (h : Qw B W0 w xb t b v ps X s r qs) (hf : Fr G w G' w') (hG : ∀ i k, X i k → ¬ G k) (hB : ∀ k, G k → B ≤ k) : Qw B W0 w' xb t b v ps X s r qs :=
  have hk : ∀ i k, X i k → w'.heap[k]? = w.heap[k]? := fun i k hk => hf.block k (h.fam.lt i k hk) (hG i k hk)
  ⟨h.fam.size hf.size, (hk 2 xb ((h.hold xb).2 (.inl rfl))).trans h.blk, h.tx.keep (hk 0), h.wl.keep (hk 1), h.row.keep fun k hv => hk 2 k ((h.hold k).2 (.inr hv)), h.hold, fun i q hq => (h.q i q hq).keep (hk (3 + i)), h.no, h.bel.trans (hf.below hB h.fam.base)⟩
theorem qWords_good {s : St} {n : Nat} {c : Int} {R : List Int} {qs : List Qr} {q : Qr} {back : Nat → List Int} (hs : Ok s (n + 131080)) (hf : Fits s) (h : Qi s.W R c qs back) (hq : q ∈ qs) (hc : c ≤ 100000) :
    ∃ s', qWords s q.hd = (q.words, 0, s') ∧ Ok s' n ∧ s'.W = s.W := by
  obtain ⟨g1, _, _, _⟩ := h.inn hq (pcs_hd q)
  simp only at g1
  have hcq := h.cnt' hq
  obtain ⟨h1, _⟩ := qWords_law hs hf (by omega) (h.whole hq (by omega))
  obtain ⟨a1, a2, a3, a4⟩ := h1 rfl
  refine ⟨_, trip (a1.trans (h.st q hq).lnk.words) a2 rfl, a4, a3⟩
set_option maxRecDepth 100000 in
theorem step5_b {B xb t b m L : Nat} {W0 w : World} {v : Value} {ps : Nat → Nat} {X : Nat → Nat → Prop} {s r : St} {qs : List Qr} {back : Nat → List Int} {c on word : Int} (h : Qw B W0 w xb t b v ps X s r qs) (hfs : Fits s) (hfr : Fits r) (hs : Ok s (m + 400000)) (hr : Ok r (m + 400000)) (hi : Qi s.W r.W c qs back) (hL : qs.length + 1 ≤ L) (hLb : L ≤ 5900000000000) (hlw : (s.W.length : Int) ≤ 1000000) (hc : c ≤ 100000) (h0 : 0 < qs.length) (ho : -9223372036854775808 ≤ on ∧ on ≤ 9223372036854775807) :
    Calls Try.prog 6 #[.pointer (some ⟨xb, 0, none⟩), .agg #[.int .i64 5, .int .i64 on, .int .u64 word]] w (StepE B W0 xb t b c m L) := by
  obtain ⟨n, hn, en, e1, e2, e3⟩ := which on qs.length h0 (by omega)
  have h1 := h.alloc (.cells #[.int .i64 5, .int .i64 on, .int .u64 word] 35)
  have hbox := Blk.new w 35 #[.int .i64 5, .int .i64 on, .int .u64 word]
  have HX : Hid (∀ i k, X i k → k < w.heap.size) := Lib.hid fun i k hk => h.fam.lt i k hk
  clear h
  have hne : ((qs.length : Int) == 0) = false := by rw [beq_eq_false_iff_ne]; omega
  obtain ⟨A, cp, b1, v1, rfl, hcp, x0, x1, x2, z2, t0, b0, hl⟩ := h1.cells
  obtain ⟨lg, lo, lc, hve, hat⟩ := h1.at_ hn
  rw [Value.slice.injEq] at hve
  obtain ⟨rfl, -, rfl⟩ := hve
  have H1 := Lib.hid h1
  have HBOX := Lib.hid hbox
  have hni : (n : Int) < qs.length := by omega
  have ho1 := ho.1
  have ho2 := ho.2
  clear h1 hbox hl ho
  generalize hlq : qs.length = ln at *
  have HLQ := Lib.hid hlq
  have hz1 : (ln = 0) = False := by simp; omega
  have hz2 : ((ln : Int) = 0) = False := by simp; omega
  clear hlq
  go_enter Try.func6, Try.ntmps6
  go_wp2
  refine wp_region_mix (fun _ => True) [3, 1, 3, 3, 3, 1, 3, 3, 3, 3, 3, 1, 3, 3, 3, 3, 3, 1, 3, 3, 3] (List.range 21) (by kernel_rfl) (by kernel_rfl) (fun _ _ h => h) trivial ?_
  repeat ((first | refine wpMix_pure rfl rfl (fun K hK => ?_) | refine wpMix_loc rfl rfl (fun K hK => ?_) | refine wpMix_any rfl rfl (fun K hK => ?_)); go_simp; refine hK _ _ ?_; clear hK K)
  refine wpMix_nil (fun n1 => ?_)
  have hb01 : Below (w.alloc (.cells #[.int .i64 5, .int .i64 on, .int .u64 word] 35)).heap.size (w.alloc (.cells #[.int .i64 5, .int .i64 on, .int .u64 word] 35)) ((w.alloc (.cells #[.int .i64 5, .int .i64 on, .int .u64 word] 35)).drew.drewN n1) := below_drewNs ((Below.refl _ _).drew) n1
  have H2 := Lib.hid (H1.out.old hb01)
  have hB2 : Blk ((w.alloc (.cells #[.int .i64 5, .int .i64 on, .int .u64 word] 35)).drew.drewN n1) w.heap.size 35 #[.int .i64 5, .int .i64 on, .int .u64 word] := HBOX.out
  clear hb01 x0 x1 x2 z2 t0 b0 hat H1 HBOX e1 e2 en hne hz1 hz2
  generalize (w.alloc (.cells #[.int .i64 5, .int .i64 on, .int .u64 word] 35)).drew.drewN n1 = w2 at *
  generalize w.heap.size = bx at *
  have b2k := hB2.cell 0
  simp only [List.getElem?_toArray, List.getElem?_cons_zero, List.getElem?_cons_succ] at b2k
  have hn' : n < qs.length := by rw [HLQ.out]; exact hn
  obtain ⟨lg2, lo2, lc2, hve2, hat2⟩ := H2.out.at_ hn'
  rw [Value.slice.injEq] at hve2
  obtain ⟨hA2, -, rfl⟩ := hve2
  simp only [Option.some.injEq, Addr.mk.injEq, and_true] at hA2
  obtain ⟨rfl, rfl⟩ := hA2
  obtain ⟨Ay, cy, by1, vy1, hvy, _, y0, y1, y2, zz2, tt0, bb0, hly⟩ := H2.out.cells
  rw [Value.slice.injEq] at hvy
  obtain ⟨rfl, -, rfl⟩ := hvy
  rw [HLQ.out] at y2
  clear hly
  have HB2 := Lib.hid hB2
  have hq2 := H2.out.q n qs[n] (List.getElem?_eq_getElem hn')
  obtain ⟨_, _, _, _, q0, _⟩ := hq2.cells
  obtain ⟨g1, g2, g3, g4⟩ := hi.inn (List.getElem_mem hn') (pcs_hd _)
  simp only at g1 g2 g3 g4
  have hqin : Hid (qs[n] ∈ qs) := Lib.hid (List.getElem_mem hn')
  have hqat : Hid (qs[n]? = some qs[n]) := Lib.hid (List.getElem?_eq_getElem hn')
  have hqe : Hid (qs = qs.take n ++ qs[n] :: qs.drop (n + 1)) := Lib.hid (by rw [List.getElem_cons_drop, List.take_append_drop])
  have hHD : Hid (∀ q', qs.set n q' = qs.take n ++ q' :: qs.drop (n + 1)) := Lib.hid fun q' => by rw [List.set_eq_take_append_cons_drop, if_pos hn']
  have hHE : Hid (qs.eraseIdx n = qs.take n ++ qs.drop (n + 1)) := Lib.hid (List.eraseIdx_eq_take_drop_succ _ _)
  generalize qs[n] = q at *
  clear hq2 hB2
  obtain ⟨s1, hlaw1, hok1, hW1⟩ := qWords_good (n := m + 200000) (hs.mono (by omega)) hfs hi hqin.out hc
  have hi1 : Qi s1.W r.W c qs back := by rw [hW1]; exact hi
  have HLAW1 := Lib.hid hlaw1
  have HW1 := Lib.hid hW1
  have HI1 := Lib.hid hi1
  have hcq : q.words.length ≤ 1000000 := by
    have h1 := hi.cnt' hqin.out
    have h2 := (hi.st q hqin.out).lnk.len
    omega
  clear hlaw1 hi1 hW1 hi
  go_wp2
  refine wp_region_mix (fun _ => True) [3, 3, 3, 1, 3, 3, 3, 3, 1, 2, 3, 3, 3, 3, 3] (List.range 15) (by kernel_rfl) (by kernel_rfl) (fun _ _ h => h) trivial ?_
  repeat ((first | refine wpMix_pure rfl rfl (fun K hK => ?_) | refine wpMix_loc rfl rfl (fun K hK => ?_) | refine wpMix_any rfl rfl (fun K hK => ?_)); go_simp; refine hK _ _ ?_; clear hK K)
  refine wpMix_loud rfl rfl (fun n5 K hK => ?_)
  go_wp2_with fail
  refine (quwords_b (n := m + 200000) (H2.out.drewN (1 + n5)).tx hfs (hs.2.mono (by omega)) (by omega) (by omega) (Fr.refl _ _)).mono ?_
  rintro _ w6 ⟨v6, l6, er, s6, q6, rfl, f6, bu6, hv6, hvo6, F6, hw6, hm6, hvF6⟩
  obtain ⟨rfl, rfl, rfl⟩ : q.words = l6 ∧ 0 = er ∧ s1 = s6 := by have := HLAW1.out.symm.trans q6.out; simpa using this
  have H6 := Lib.hid ((H2.out.drewN (1 + n5)).step0 hw6 hm6)
  have hn6 : Hid (∀ i k, own v6 k → ¬ upd X 0 F6 i k) := Lib.hid fun i k hk hx => by
    by_cases e : i = 0
    · subst e; rw [upd_eq] at hx; exact hvF6 k hk hx
    · rw [upd_ne _ _ e] at hx; have h1 := hvo6 k hk; have h2 := (H2.out.drewN (1 + n5)).fam.lt i k hx; omega
  have hb6 : Hid (∀ k, own v6 k → B ≤ k) := Lib.hid fun k hk => Nat.le_trans (H2.out.drewN (1 + n5)).fam.base (hvo6 k hk)
  have HV6 := Lib.hid hv6
  obtain ⟨A6, c6, rfl, hc6⟩ := hv6.shape
  clear hm6 hw6 hvo6 hvF6 hv6 q6 HLAW1 H2 HB2 HX y0 y1 y2 zz2 tt0 bb0 hat2 b2k q0
  go_wp2
  refine hK _ _ (fun _ => trivial) ?_; clear hK K
  repeat ((first | refine wpMix_pure rfl rfl (fun K hK => ?_) | refine wpMix_loc rfl rfl (fun K hK => ?_) | refine wpMix_any rfl rfl (fun K hK => ?_)); go_simp; refine hK _ _ ?_; clear hK K)
  refine wpMix_nil (fun n6 => ?_)
  obtain ⟨w7, hw7⟩ : ∃ v, v = w6.drewN n6 := ⟨_, rfl⟩
  have H7 := Lib.hid (H6.out.drewN n6)
  rw [← hw7] at H7
  rw [← hw7]
  have HV7 := Lib.hid (HV6.out.drewN n6)
  rw [← hw7] at HV7
  clear HV6 H6 hw7
  obtain ⟨A7, c7, b7, v7, hv7e, hcc7, x0, x1, x2, z2, t0, b0, hl7⟩ := H7.out.cells
  have hq7 := H7.out.q n q hqat.out
  obtain ⟨_, _, _, _, k0, _⟩ := hq7.cells
  clear hq7
  obtain ⟨s8, hlaw2, hok2, hW2⟩ := qWords_good (n := m + 1000) (s := s1) (hok1.mono (by omega)) f6 HI1.out hqin.out hc
  have hi2 : Qi s8.W r.W c qs back := by rw [hW2]; exact HI1.out
  have HLAW2 := Lib.hid hlaw2
  have HW2 := Lib.hid hW2
  have HI2 := Lib.hid hi2
  clear hl7 hv7e hlaw2 hi2 hW2
  go_wp2
  refine wp_region_mix (fun _ => True) [3, 3, 3, 1, 3, 3, 3, 3, 1, 2, 3, 3, 3, 3, 3] (List.range 15) (by kernel_rfl) (by kernel_rfl) (fun _ _ h => h) trivial ?_
  repeat ((first | refine wpMix_pure rfl rfl (fun K hK => ?_) | refine wpMix_loc rfl rfl (fun K hK => ?_) | refine wpMix_any rfl rfl (fun K hK => ?_)); go_simp; refine hK _ _ ?_; clear hK K)
  refine wpMix_loud rfl rfl (fun n8 K hK => ?_)
  go_wp2_with fail
  refine (quwords_b (n := m + 1000) (H7.out.drewN (1 + n8)).tx f6 (bu6.mono (by omega)) (by omega) (by omega) (Fr.refl _ _)).mono ?_
  rintro _ w9 ⟨v9, l9, er, s9, q9, rfl, f9, bu9, hv9, hvo9, F9, hw9, hm9, hvF9⟩
  obtain ⟨rfl, rfl, rfl⟩ : q.words = l9 ∧ 0 = er ∧ s8 = s9 := by have := HLAW2.out.symm.trans q9.out; simpa using this
  have H9 := Lib.hid ((H7.out.drewN (1 + n8)).step0 hw9 hm9)
  have hn9 : Hid (∀ i k, own v9 k → ¬ upd (upd X 0 F6) 0 F9 i k) := Lib.hid fun i k hk hx => by
    by_cases e : i = 0
    · subst e; rw [upd_eq] at hx; exact hvF9 k hk hx
    · rw [upd_ne _ _ e] at hx; have h1 := hvo9 k hk; have h2 := (H7.out.drewN (1 + n8)).fam.lt i k hx; omega
  have hn69 : Hid (∀ i k, own (.slice A6 q.words.length c6) k → ¬ upd (upd X 0 F6) 0 F9 i k) := Lib.hid fun i k hk hx => by
    by_cases e : i = 0
    · subst e; rw [upd_eq] at hx; exact (hm9.new k hx).elim (hn6.out 0 k hk) fun h1 => by have := (HV7.out.drewN (1 + n8)).lt k hk; omega
    · rw [upd_ne _ _ e] at hx; exact hn6.out i k hk hx
  have hb9 : Hid (∀ k, own v9 k → B ≤ k) := Lib.hid fun k hk => Nat.le_trans (H7.out.drewN (1 + n8)).fam.base (hvo9 k hk)
  have hap : Hid (∀ k, own (.slice A6 q.words.length c6) k → ¬ own v9 k) := Lib.hid fun k h1 h2 => by have h3 := hvo9 k h2; have h4 := (HV7.out.drewN (1 + n8)).lt k h1; omega
  have HV69 := Lib.hid ((HV7.out.drewN (1 + n8)).fr hm9 (hn6.out 0))
  have HV9 := Lib.hid hv9
  obtain ⟨A9, c9, rfl, hc9⟩ := hv9.shape
  clear hm9 hw9 hvo9 hvF9 hv9 q9 HLAW2 H7 x0 x1 x2 z2 t0 b0 k0 HV7 hn6
  go_wp2
  refine hK _ _ (fun _ => trivial) ?_; clear hK K
  repeat ((first | refine wpMix_pure rfl rfl (fun K hK => ?_) | refine wpMix_loc rfl rfl (fun K hK => ?_) | refine wpMix_any rfl rfl (fun K hK => ?_)); go_simp; refine hK _ _ ?_; clear hK K)
  refine wpMix_nil (fun n9 => ?_)
  obtain ⟨w10, hw10⟩ : ∃ v, v = w9.drewN n9 := ⟨_, rfl⟩
  have H10 := Lib.hid (H9.out.drewN n9)
  have HV610 := Lib.hid (HV69.out.drewN n9)
  have HV910 := Lib.hid (HV9.out.drewN n9)
  rw [← hw10] at H10 HV610 HV910
  rw [← hw10]
  clear hw10 H9 HV69 HV9
  have hq10 := H10.out.q n q hqat.out
  obtain ⟨_, _, A8, c8, _, _, k2, _, hc8, _, kw⟩ := hq10.cells
  have HW6 := Lib.hid HV610.out.lies
  have HW9 := Lib.hid HV910.out.lies
  have HKW := Lib.hid kw
  clear hq10 kw
  go_wp2_with (go_at_call 14; refine (num_b _ _).mono ?_; rintro e _ ⟨rfl, rfl⟩)
  refine (same_b HW6.out HKW.out (by omega)).mono ?_
  rintro _ _ ⟨rfl, n11, rfl⟩
  go_wp2_with fail
  refine (same_b (HW9.out.drewN n11) (HKW.out.drewN n11) (by omega)).mono ?_
  rintro _ _ ⟨rfl, n12, rfl⟩
  obtain ⟨w12, hw12⟩ : ∃ v, v = (w10.drewN n11).drewN n12 := ⟨_, rfl⟩
  have H12 := Lib.hid ((H10.out.drewN n11).drewN n12)
  have HV612 := Lib.hid ((HV610.out.drewN n11).drewN n12)
  have HV912 := Lib.hid ((HV910.out.drewN n11).drewN n12)
  rw [← hw12] at H12 HV612 HV912
  rw [← hw12]
  clear hw12 H10 HV610 HV910 HW6 HW9 HKW k2
  have hF : Hid (Fl (w12.alloc (.cells #[.slice A6 q.words.length c6, .slice A9 q.words.length c9] 36)) (some ⟨w12.heap.size, 0, none⟩) 2 (fun i => if i = 0 then .slice A6 q.words.length c6 else .slice A9 q.words.length c9) (fun _ => q.words)) := Lib.hid (by
    have hnb := Blk.new w12 36 #[.slice A6 q.words.length c6, .slice A9 q.words.length c9]
    refine ⟨⟨fun i hi => ⟨w12.heap.size, 0, rfl, ?_, _, hnb⟩⟩, fun i hi => ?_, fun i j k hi hj h1 h2 => ?_⟩
    · rw [Nat.zero_add, hnb.cell]
      rcases (show i = 0 ∨ i = 1 by omega) with rfl | rfl <;> rfl
    · rcases (show i = 0 ∨ i = 1 by omega) with rfl | rfl
      · exact HV612.out.alloc _
      · exact HV912.out.alloc _
    · rcases (show i = 0 ∨ i = 1 by omega) with rfl | rfl
      · rcases (show j = 0 ∨ j = 1 by omega) with rfl | rfl
        · rfl
        · exact (hap.out k h1 h2).elim
      · rcases (show j = 0 ∨ j = 1 by omega) with rfl | rfl
        · exact (hap.out k h2 h1).elim
        · rfl)
  go_wp2_with fail
  refine (apart_b (A := some ⟨w12.heap.size, 0, none⟩) (n := 2) (cA := 2) hF.out (by omega) (by omega) (fun _ _ => hcq)).mono ?_
  rintro _ w13 ⟨rfl, hm13⟩
  have H13 := Lib.hid ((H12.out.alloc (.cells #[.slice A6 q.words.length c6, .slice A9 q.words.length c9] 36)).side hm13 (fun i k hx ⟨j, hj, ho⟩ => by
    rcases (show j = 0 ∨ j = 1 by omega) with rfl | rfl
    · exact hn69.out i k ho hx
    · exact hn9.out i k ho hx) (fun k ⟨j, hj, ho⟩ => by
    rcases (show j = 0 ∨ j = 1 by omega) with rfl | rfl
    · exact hb6.out k ho
    · exact hb9.out k ho))
  clear hm13 hF H12 HV612 HV912
  go_wp2
  go_ret
  exact ⟨rfl, _, ps, _, s8, r, qs, back, H13.out, f9, hfr, hok2.mono (by omega), hr.mono (by omega), HI2.out, by first | omega | (have := HLQ.out; omega), by rw [HW2.out, HW1.out]; exact hlw⟩
end Go.Proofs.Ytfbbmnlebibplaa
