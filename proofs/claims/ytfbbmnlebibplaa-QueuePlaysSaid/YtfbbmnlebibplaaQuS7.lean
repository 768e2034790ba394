/- QueuePlays: no call. -/
import Derived.Test.YtfbbmnlebibplaaQuS1
namespace Go.Proofs.Ytfbbmnlebibplaa
open Go.RowKit
set_option maxHeartbeats 4000000
set_option linter.unusedVariables false
set_option linter.unusedSimpArgs false

set_option maxRecDepth 100000 in
theorem step7_b {B xb t b m L : Nat} {W0 w : World} {v : Value} {ps : Nat → Nat} {X : Nat → Nat → Prop} {s r : St} {qs : List Qr} {back : Nat → List Int} {c on word kd : Int} (h : Qw B W0 w xb t b v ps X s r qs) (hfs : Fits s) (hfr : Fits r) (hs : Ok s (m + 400000)) (hr : Ok r (m + 400000)) (hi : Qi s.W r.W c qs back) (hL : qs.length + 1 ≤ L) (hLb : L ≤ 5900000000000) (hlw : (s.W.length : Int) ≤ 1000000) (hc : c ≤ 100000) (h0 : 0 < qs.length) (ho : -9223372036854775808 ≤ on ∧ on ≤ 9223372036854775807) (hk : (kd == 1) = false ∧ (kd == 2) = false ∧ (kd == 3) = false ∧ (kd == 4) = false ∧ (kd == 5) = false ∧ (kd == 6) = false) (hk0 : (kd == 0) = false) :
    Calls Try.prog 6 #[.pointer (some ⟨xb, 0, none⟩), .agg #[.int .i64 kd, .int .i64 on, .int .u64 word]] w (StepE B W0 xb t b c m L) := by
  obtain ⟨n, hn, en, e1, e2, e3⟩ := which on qs.length h0 (by omega)
  have h1 := h.alloc (.cells #[.int .i64 kd, .int .i64 on, .int .u64 word] 35)
  have hbox := Blk.new w 35 #[.int .i64 kd, .int .i64 on, .int .u64 word]
  have HX : Hid (∀ i k, X i k → k < w.heap.size) := Lib.hid fun i k hk => h.fam.lt i k hk
  clear h
  have hne : ((qs.length : Int) == 0) = false := by rw [beq_eq_false_iff_ne]; omega
  obtain ⟨A, cp, b1, v1, rfl, hcp, x0, x1, x2, z2, t0, b0, hl⟩ := h1.cells
  obtain ⟨lg, lo, lc, hve, hat⟩ := h1.at_ hn
  rw [Value.slice.injEq] at hve
  obtain ⟨rfl, -, rfl⟩ := hve
  have H1 := Lib.hid h1
  have HBOX := Lib.hid hbox
  have hni : (n : Int) < qs.length := by omega
  have ho1 := ho.1
  have ho2 := ho.2
  clear h1 hbox hl ho
  generalize hlq : qs.length = ln at *
  have HLQ := Lib.hid hlq
  have hz1 : (ln = 0) = False := by simp; omega
  have hz2 : ((ln : Int) = 0) = False := by simp; omega
  clear hlq
  go_enter Try.func6, Try.ntmps6
  go_wp2
  refine wp_region_mix (fun _ => True) [3, 1, 3, 3, 3, 1, 3, 3, 3, 3, 3, 1, 3, 3, 3, 3, 3, 1, 3, 3, 3] (List.range 21) (by kernel_rfl) (by kernel_rfl) (fun _ _ h => h) trivial ?_
  repeat ((first | refine wpMix_pure rfl rfl (fun K hK => ?_) | refine wpMix_loc rfl rfl (fun K hK => ?_) | refine wpMix_any rfl rfl (fun K hK => ?_)); go_simp; refine hK _ _ ?_; clear hK K)
  refine wpMix_nil (fun n1 => ?_)
  have hb01 : Below (w.alloc (.cells #[.int .i64 kd, .int .i64 on, .int .u64 word] 35)).heap.size (w.alloc (.cells #[.int .i64 kd, .int .i64 on, .int .u64 word] 35)) ((w.alloc (.cells #[.int .i64 kd, .int .i64 on, .int .u64 word] 35)).drew.drewN n1) := below_drewNs ((Below.refl _ _).drew) n1
  have H2 := Lib.hid (H1.out.old hb01)
  have hB2 : Blk ((w.alloc (.cells #[.int .i64 kd, .int .i64 on, .int .u64 word] 35)).drew.drewN n1) w.heap.size 35 #[.int .i64 kd, .int .i64 on, .int .u64 word] := HBOX.out
  clear hb01 x0 x1 x2 z2 t0 b0 hat H1 HBOX e1 e2 en hne hz1 hz2
  generalize (w.alloc (.cells #[.int .i64 kd, .int .i64 on, .int .u64 word] 35)).drew.drewN n1 = w2 at *
  generalize w.heap.size = bx at *
  have b2k := hB2.cell 0
  simp only [List.getElem?_toArray, List.getElem?_cons_zero, List.getElem?_cons_succ] at b2k
  have hn' : n < qs.length := by rw [HLQ.out]; exact hn
  obtain ⟨lg2, lo2, lc2, hve2, hat2⟩ := H2.out.at_ hn'
  rw [Value.slice.injEq] at hve2
  obtain ⟨hA2, -, rfl⟩ := hve2
  simp only [Option.some.injEq, Addr.mk.injEq, and_true] at hA2
  obtain ⟨rfl, rfl⟩ := hA2
  obtain ⟨Ay, cy, by1, vy1, hvy, _, y0, y1, y2, zz2, tt0, bb0, hly⟩ := H2.out.cells
  rw [Value.slice.injEq] at hvy
  obtain ⟨rfl, -, rfl⟩ := hvy
  rw [HLQ.out] at y2
  clear hly
  have HB2 := Lib.hid hB2
  have hq2 := H2.out.q n qs[n] (List.getElem?_eq_getElem hn')
  obtain ⟨_, _, _, _, q0, _⟩ := hq2.cells
  obtain ⟨g1, g2, g3, g4⟩ := hi.inn (List.getElem_mem hn') (pcs_hd _)
  simp only at g1 g2 g3 g4
  have hqin : Hid (qs[n] ∈ qs) := Lib.hid (List.getElem_mem hn')
  have hqat : Hid (qs[n]? = some qs[n]) := Lib.hid (List.getElem?_eq_getElem hn')
  have hqe : Hid (qs = qs.take n ++ qs[n] :: qs.drop (n + 1)) := Lib.hid (by rw [List.getElem_cons_drop, List.take_append_drop])
  have hHD : Hid (∀ q', qs.set n q' = qs.take n ++ q' :: qs.drop (n + 1)) := Lib.hid fun q' => by rw [List.set_eq_take_append_cons_drop, if_pos hn']
  have hHE : Hid (qs.eraseIdx n = qs.take n ++ qs.drop (n + 1)) := Lib.hid (List.eraseIdx_eq_take_drop_succ _ _)
  generalize qs[n] = q at *
  clear hq2 hB2
  obtain ⟨p1, p2, p3, p4, p5, p6⟩ := hk
  have hfin : Hid (StepP B W0 xb t b c m L w2) := Lib.hid ⟨_, ps, _, s, r, qs, back, H2.out, hfs, hfr, hs.mono (by omega), hr.mono (by omega), hi, by first | omega | (have := HLQ.out; omega) | (have := HLQ.out; simp; omega), hlw⟩
  clear H2 HX hi hqin hqat hqe hHD hHE
  go_wp2
  go_ret
  exact ⟨rfl, hfin.out⟩
set_option maxRecDepth 100000 in
/-- no queue there is -/
theorem stepn_b {B xb t b m L : Nat} {W0 w : World} {v : Value} {ps : Nat → Nat} {X : Nat → Nat → Prop} {s r : St} {back : Nat → List Int} {c on word kd : Int} (h : Qw B W0 w xb t b v ps X s r []) (hfs : Fits s) (hfr : Fits r) (hs : Ok s (m + 400000)) (hr : Ok r (m + 400000)) (hi : Qi s.W r.W c [] back) (hk0 : (kd == 0) = false) (hlw : (s.W.length : Int) ≤ 1000000) :
    Calls Try.prog 6 #[.pointer (some ⟨xb, 0, none⟩), .agg #[.int .i64 kd, .int .i64 on, .int .u64 word]] w (StepE B W0 xb t b c m L) := by
  have h1 := h.alloc (.cells #[.int .i64 kd, .int .i64 on, .int .u64 word] 35)
  obtain ⟨A, cp, b1, v1, rfl, hcp, x0, x1, x2, z2, t0, b0, hl⟩ := h1.cells
  have H1 := Lib.hid h1
  clear h h1 hl
  simp only [List.length_nil] at x2
  go_enter Try.func6, Try.ntmps6
  go_wp2
  go_ret
  exact ⟨rfl, _, ps, _, s, r, [], back, H1.out, hfs, hfr, hs.mono (by omega), hr.mono (by omega), hi, by simp, hlw⟩
end Go.Proofs.Ytfbbmnlebibplaa
