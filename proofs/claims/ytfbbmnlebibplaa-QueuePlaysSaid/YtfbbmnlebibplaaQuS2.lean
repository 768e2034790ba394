/- QueuePlays: a word is taken. -/
import Derived.Test.YtfbbmnlebibplaaQuS1
namespace Go.Proofs.Ytfbbmnlebibplaa
open Go.RowKit
set_option maxHeartbeats 4000000
set_option linter.unusedVariables false
set_option linter.unusedSimpArgs false

set_option maxRecDepth 100000 in
theorem step2_b {B xb t b m L : Nat} {W0 w : World} {v : Value} {ps : Nat → Nat} {X : Nat → Nat → Prop} {s r : St} {qs : List Qr} {back : Nat → List Int} {c on word : Int} (h : Qw B W0 w xb t b v ps X s r qs) (hfs : Fits s) (hfr : Fits r) (hs : Ok s (m + 400000)) (hr : Ok r (m + 400000)) (hi : Qi s.W r.W c qs back) (hL : qs.length + 1 ≤ L) (hLb : L ≤ 5900000000000) (hlw : (s.W.length : Int) ≤ 1000000) (hc : c ≤ 100000) (h0 : 0 < qs.length) (ho : -9223372036854775808 ≤ on ∧ on ≤ 9223372036854775807) :
    Calls Try.prog 6 #[.pointer (some ⟨xb, 0, none⟩), .agg #[.int .i64 2, .int .i64 on, .int .u64 word]] w (StepE B W0 xb t b c m L) := by
  obtain ⟨n, hn, en, e1, e2, e3⟩ := which on qs.length h0 (by omega)
  have h1 := h.alloc (.cells #[.int .i64 2, .int .i64 on, .int .u64 word] 35)
  have hbox := Blk.new w 35 #[.int .i64 2, .int .i64 on, .int .u64 word]
  have HX : Hid (∀ i k, X i k → k < w.heap.size) := Lib.hid fun i k hk => h.fam.lt i k hk
  clear h
  have hne : ((qs.length : Int) == 0) = false := by rw [beq_eq_false_iff_ne]; omega
  obtain ⟨A, cp, b1, v1, rfl, hcp, x0, x1, x2, z2, t0, b0, hl⟩ := h1.cells
  obtain ⟨lg, lo, lc, hve, hat⟩ := h1.at_ hn
  rw [Value.slice.injEq] at hve
  obtain ⟨rfl, -, rfl⟩ := hve
  have H1 := Lib.hid h1
  have HBOX := Lib.hid hbox
  have hni : (n : Int) < qs.length := by omega
  have ho1 := ho.1
  have ho2 := ho.2
  clear h1 hbox hl ho
  generalize hlq : qs.length = ln at *
  have HLQ := Lib.hid hlq
  have hz1 : (ln = 0) = False := by simp; omega
  have hz2 : ((ln : Int) = 0) = False := by simp; omega
  clear hlq
  go_enter Try.func6, Try.ntmps6
  go_wp2
  refine wp_region_mix (fun _ => True) [3, 1, 3, 3, 3, 1, 3, 3, 3, 3, 3, 1, 3, 3, 3, 3, 3, 1, 3, 3, 3] (List.range 21) (by kernel_rfl) (by kernel_rfl) (fun _ _ h => h) trivial ?_
  repeat ((first | refine wpMix_pure rfl rfl (fun K hK => ?_) | refine wpMix_loc rfl rfl (fun K hK => ?_) | refine wpMix_any rfl rfl (fun K hK => ?_)); go_simp; refine hK _ _ ?_; clear hK K)
  refine wpMix_nil (fun n1 => ?_)
  have hb01 : Below (w.alloc (.cells #[.int .i64 2, .int .i64 on, .int .u64 word] 35)).heap.size (w.alloc (.cells #[.int .i64 2, .int .i64 on, .int .u64 word] 35)) ((w.alloc (.cells #[.int .i64 2, .int .i64 on, .int .u64 word] 35)).drew.drewN n1) := below_drewNs ((Below.refl _ _).drew) n1
  have H2 := Lib.hid (H1.out.old hb01)
  have hB2 : Blk ((w.alloc (.cells #[.int .i64 2, .int .i64 on, .int .u64 word] 35)).drew.drewN n1) w.heap.size 35 #[.int .i64 2, .int .i64 on, .int .u64 word] := HBOX.out
  clear hb01 x0 x1 x2 z2 t0 b0 hat H1 HBOX e1 e2 en hne hz1 hz2
  generalize (w.alloc (.cells #[.int .i64 2, .int .i64 on, .int .u64 word] 35)).drew.drewN n1 = w2 at *
  generalize w.heap.size = bx at *
  have b2k := hB2.cell 0
  simp only [List.getElem?_toArray, List.getElem?_cons_zero, List.getElem?_cons_succ] at b2k
  have hn' : n < qs.length := by rw [HLQ.out]; exact hn
  obtain ⟨lg2, lo2, lc2, hve2, hat2⟩ := H2.out.at_ hn'
  rw [Value.slice.injEq] at hve2
  obtain ⟨hA2, -, rfl⟩ := hve2
  simp only [Option.some.injEq, Addr.mk.injEq, and_true] at hA2
  obtain ⟨rfl, rfl⟩ := hA2
  obtain ⟨Ay, cy, by1, vy1, hvy, _, y0, y1, y2, zz2, tt0, bb0, hly⟩ := H2.out.cells
  rw [Value.slice.injEq] at hvy
  obtain ⟨rfl, -, rfl⟩ := hvy
  rw [HLQ.out] at y2
  clear hly
  have HB2 := Lib.hid hB2
  have hq2 := H2.out.q n qs[n] (List.getElem?_eq_getElem hn')
  obtain ⟨_, _, _, _, q0, _⟩ := hq2.cells
  obtain ⟨g1, g2, g3, g4⟩ := hi.inn (List.getElem_mem hn') (pcs_hd _)
  simp only at g1 g2 g3 g4
  have hqin : Hid (qs[n] ∈ qs) := Lib.hid (List.getElem_mem hn')
  have hqat : Hid (qs[n]? = some qs[n]) := Lib.hid (List.getElem?_eq_getElem hn')
  have hqe : Hid (qs = qs.take n ++ qs[n] :: qs.drop (n + 1)) := Lib.hid (by rw [List.getElem_cons_drop, List.take_append_drop])
  have hHD : Hid (∀ q', qs.set n q' = qs.take n ++ q' :: qs.drop (n + 1)) := Lib.hid fun q' => by rw [List.set_eq_take_append_cons_drop, if_pos hn']
  have hHE : Hid (qs.eraseIdx n = qs.take n ++ qs.drop (n + 1)) := Lib.hid (List.eraseIdx_eq_take_drop_succ _ _)
  generalize qs[n] = q at *
  clear hq2 hB2
  have hlaw : (q.nodes = [] ∧ q.words = [] ∧ qTake s 0 q.hd = (0, false, 0, rdt s q.hd) ∧ Ok (rdt s q.hd) (m + 300000)) ∨ ∃ nd ns y ys s' r' back', q.nodes = nd :: ns ∧ q.words = y :: ys ∧ qTake s 0 q.hd = (y, true, 0, s') ∧ rGive r 0 nd 2 = (0, r') ∧ Ok s' (m + 300000) ∧ Ok r' (m + 300000) ∧ Qi s'.W r'.W c (qs.take n ++ ⟨q.hd, ns, ys⟩ :: qs.drop (n + 1)) back' ∧ 0 ≤ nd ∧ nd ≤ 18446744073709551615 ∧ ns.length ≤ 1000000 ∧ ys.length ≤ 1000000 ∧ s'.W.length = s.W.length := by
    have hi' : Qi s.W r.W c (qs.take n ++ q :: qs.drop (n + 1)) back := by rw [← hqe.out]; exact hi
    have hst := (hi.st q hqin.out).lnk
    have hcq := hi'.cnt
    obtain ⟨d, nodes, words⟩ := q
    cases nodes with
    | nil =>
      cases words with
      | nil => exact .inl ⟨rfl, rfl, qTake_none (n := m + 300000) (hs.mono (by omega)) hi hqin.out rfl, rdt_ok (hs.mono (by omega)) _⟩
      | cons y ys => exact hst.elim
    | cons nd ns =>
      cases words with
      | nil => exact hst.elim
      | cons y ys =>
        have hnd := hi.inn hqin.out (pcs_nd (n := nd) (by simp))
        simp only at hnd
        simp only [List.length_cons] at hcq
        have hll := hst.len
        simp only [List.length_cons] at hll
        obtain ⟨s', r', back', a1, a2, a3, a4, a5, a6, a7⟩ := qTake_law (n := m + 300000) (m := m + 300000) (hs.mono (by omega)) (hr.mono (by omega)) hi'
        exact .inr ⟨nd, ns, y, ys, s', r', back', rfl, rfl, a1, a2, a3, a4, a7, by omega, by omega, by omega, by omega, a5⟩
  have HLAW := Lib.hid hlaw
  clear hlaw
  go_wp2
  refine wp_region_mix (fun _ => True) [3, 3, 3, 1, 3, 3, 3, 3, 1, 2, 3, 3, 3, 3, 3, 3, 3] (List.range 17) (by kernel_rfl) (by kernel_rfl) (fun _ _ h => h) trivial ?_
  repeat ((first | refine wpMix_pure rfl rfl (fun K hK => ?_) | refine wpMix_loc rfl rfl (fun K hK => ?_) | refine wpMix_any rfl rfl (fun K hK => ?_)); go_simp; refine hK _ _ ?_; clear hK K)
  refine wpMix_loud rfl rfl (fun n5 K hK => ?_)
  go_wp2_with fail
  refine (qutake_b (n := m + 300000) (H2.out.drewN (1 + n5)).tx hfs (hs.2.mono (by omega)) (by omega) (by omega) (by omega) (Fr.refl _ _)).mono ?_
  rintro _ w6 ⟨x6, bo6, er, s6, q6, dx, dx', rfl, f6, bu6, F6, hw6, hm6⟩
  have H6 := Lib.hid ((H2.out.drewN (1 + n5)).step0 hw6 hm6)
  clear hm6 hw6
  clear H2 HB2 HX y0 y1 y2 zz2 tt0 bb0 hat2 b2k q0
  go_wp2
  refine hK _ _ (fun _ => trivial) ?_; clear hK K
  repeat ((first | refine wpMix_pure rfl rfl (fun K hK => ?_) | refine wpMix_loc rfl rfl (fun K hK => ?_) | refine wpMix_any rfl rfl (fun K hK => ?_)); go_simp; refine hK _ _ ?_; clear hK K)
  refine wpMix_nil (fun n6 => ?_)
  obtain ⟨w7, hw7⟩ : ∃ v, v = w6.drewN n6 := ⟨_, rfl⟩
  have H7 := Lib.hid (H6.out.drewN n6)
  rw [← hw7] at H7
  rw [← hw7]
  clear H6 hw7
  obtain ⟨_, _, b7, v7, _, _, x0, x1, x2, z2, t0, b0, hl7⟩ := H7.out.cells
  clear hl7
  have hq7 := H7.out.q n q hqat.out
  rcases HLAW.out with ⟨c1, c2, a1, a2⟩ | ⟨nd, ns, y, ys, s', r', back', c1, c2, a1, a2, a3, a4, a7, d1, d2, d3, d4, d5⟩
  · obtain ⟨rfl, rfl, rfl, rfl⟩ : 0 = x6 ∧ false = bo6 ∧ 0 = er ∧ rdt s q.hd = s6 := by have := a1.symm.trans q6.out; simpa using this
    have hq7' : Qm w7 (ps n) (upd X 0 F6 (3 + n)) ⟨q.hd, [], []⟩ := by have := hq7; cases q; simp only at c1 c2; subst c1; subst c2; exact this
    have HI : Hid (Qi (rdt s q.hd).W r.W c qs back) := Lib.hid (by rw [rdt_W]; exact hi)
    clear a1 q6 c1 c2 HLAW hi hq7
    go_wp2_with (go_at_call 23; go_must (refine (reftake_none (b := b) hq7').mono ?_; rintro _ _ ⟨rfl, rfl⟩))
    go_wp2_with (go_at_call 14; refine (num_b _ _).mono ?_; rintro e _ ⟨rfl, rfl⟩)
    go_ret
    exact ⟨rfl, _, ps, _, _, r, qs, back, H7.out, f6, hfr, a2.mono (by omega), hr.mono (by omega), HI.out, by first | omega | (have := HLQ.out; omega) | (have := HLQ.out; simp; omega), by rw [rdt_W]; exact hlw⟩
  · obtain ⟨rfl, rfl, rfl, rfl⟩ : y = x6 ∧ true = bo6 ∧ 0 = er ∧ s' = s6 := by have := a1.symm.trans q6.out; simpa using this
    have hq7' : Qm w7 (ps n) (upd X 0 F6 (3 + n)) ⟨q.hd, nd :: ns, y :: ys⟩ := by rw [← c1, ← c2]; exact hq7
    have Q2 := Lib.hid a2
    have HI2 := Lib.hid a7
    have D5 := Lib.hid d5
    clear d5
    clear a1 q6 c1 c2 HLAW hi hq7 a2 a7
    go_wp2_with fail
    refine (reftake_yes (n := m + 300000) H7.out.wl hfr (hr.2.mono (by omega)) Q2 d1 d2 hq7' (fun k hk h1 => H7.out.fam.not (i := 3 + n) (j := 1) (by omega) k hk h1) d3 d4).mono ?_
    rintro _ w9 ⟨F9, rfl, ⟨f9, bu9, hw9⟩, hq9, hd9, hm9⟩
    have H9 := Lib.hid (H7.out.step2 hn' hw9 hq9 hd9 hm9)
    clear hm9 hw9 hq9 hd9 hq7' H7 x0 x1 x2 z2 t0 b0
    go_wp2_with (go_at_call 14; refine (num_b _ _).mono ?_; rintro e _ ⟨rfl, rfl⟩)
    go_ret
    exact ⟨ret_bool (by simp), _, ps, _, s', r', _, back', H9.out, f6, f9, a3.mono (by omega), a4.mono (by omega), by rw [hHD.out]; exact HI2.out, by first | omega | (have := HLQ.out; omega) | (have := HLQ.out; simp; omega), by rw [D5.out]; exact hlw⟩
end Go.Proofs.Ytfbbmnlebibplaa
