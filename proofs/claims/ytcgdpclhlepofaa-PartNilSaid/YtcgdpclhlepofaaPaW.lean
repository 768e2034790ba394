/- The chapter's examples. -/
import Derived.Test.YtcgdpclhlepofaaPaW0
import Derived.Deep.DeepMust
namespace Go.Proofs.Ytcgdpclhlepofaa
open Go.RowKit
set_option maxHeartbeats 4000000
set_option linter.unusedVariables false
set_option linter.unusedSimpArgs false

def TrueP (B : Nat) (w : World) (e : Ending) (w' : World) : Prop := e = .returned (.bool true) ∧ Below B w w'
set_option maxRecDepth 100000 in
theorem works_b (w : World) : Calls Try.prog 18 #[] w (TrueP w.heap.size w) := by
  have hl := Lies.new w [5, 6, 7] (by simp)
  have HB0 := Lib.hid ((Below.refl w.heap.size w).alloc (Nat.le_refl _) (.cells #[.int .u64 5, .int .u64 6, .int .u64 7] 23))
  go_enter Try.func18, Try.ntmps18
  go_wp2_with fail
  refine (filled_b hl (by simp) (by simp)).mono ?_
  rintro _ w1 ⟨t, q, ok, s1, F1, q1, dq, dq', rfl, f1, b1, hw1, ho1, hb1⟩
  obtain ⟨rfl, rfl, rfl⟩ : 18 = q ∧ true = ok ∧ kp1 = s1 := by have := kp1_e.symm.trans q1.out; simpa using this
  have HB1 := Lib.hid (HB0.out.trans (hb1.mono (by simp)))
  have HO1 : Hid (∀ k, F1 k → w.heap.size ≤ k) := Lib.hid fun k hk => by have := ho1 k hk; simp at this; omega
  clear hl HB0 ho1 hb1 q1
  go_wp2_with fail
  refine (pqueue_b (n := 3000000000) hw1 f1 (b1.mono (by omega)) (by omega) (by omega) (Fr.refl F1 _)).mono ?_
  rintro _ w2 ⟨f, c, er, s2, q2, _, _, _, _, rfl, f2, b2, F2, hw2, hm2⟩
  obtain ⟨rfl, rfl, rfl, rfl⟩ : 22 = f ∧ 3 = c ∧ 0 = er ∧ kp2 = s2 := by have := kp2_e.symm.trans q2.out; simpa using this
  have HB2 := Lib.hid (HB1.out.trans (hm2.below HO1.out HB1.out.size))
  have HO2 : Hid (∀ k, F2 k → w.heap.size ≤ k) := Lib.hid (hm2.ge HO1.out HB1.out.size)
  have hv : partv 1 22 3 0 = .agg #[.int .i64 1, .int .u64 22, .int .u64 3] := if_pos rfl
  rw [hv]
  -- the part's own box
  have hw2' := hw2.alloc (.cells #[.int .i64 1, .int .u64 22, .int .u64 3] 25)
  have HP2 := Lib.hid (Blk.new w2 25 #[.int .i64 1, .int .u64 22, .int .u64 3])
  have HPF2 : Hid (¬ F2 w2.heap.size) := Lib.hid fun h => by have := hw2.lt _ h; omega
  have HB2' := Lib.hid (HB2.out.alloc HB2.out.size (.cells #[.int .i64 1, .int .u64 22, .int .u64 3] 25))
  clear hw1 hm2 hw2 HB1 HO1 q2 hv f1 b1
  go_wp2_with fail
  generalize w2.alloc (.cells #[.int .i64 1, .int .u64 22, .int .u64 3] 25) = w3 at *
  generalize w2.heap.size = pb at *
  refine (preadv_b (n := 2000000000) hw2' f2 (b2.mono (by omega)) (by omega) (by omega) (by omega) (by omega) (Fr.refl F2 _)).mono ?_
  rintro _ w4 ⟨va, la, er, s4, q4, rfl, f4, b4, hva, hvao, F4, hw4, hm4, hvF⟩
  obtain ⟨rfl, rfl, rfl⟩ : [5, 6, 7] = la ∧ 0 = er ∧ kp3 = s4 := by have := kp3_e.symm.trans q4.out; simpa using this
  have HB4 := Lib.hid (HB2'.out.trans (hm4.below HO2.out HB2'.out.size))
  have HO4 : Hid (∀ k, F4 k → w.heap.size ≤ k) := Lib.hid (hm4.ge HO2.out HB2'.out.size)
  have HP4 := Lib.hid (hm4.blk HP2.out HPF2.out)
  have HPF4 : Hid (¬ F4 pb) := Lib.hid (hm4.not_in HP2.out.lt HPF2.out)
  have HVA4 := Lib.hid hva
  have HVF4 := Lib.hid hvF
  obtain ⟨Aa, ca, rfl, hca⟩ := hva.shape
  clear hm4 hva hvao hvF q4 hw2' HB2 HB2' HO2 HP2 HPF2 f2 b2
  go_wp2_with fail
  refine (quwords_b (n := 1500000000) hw4 f4 (b4.mono (by omega)) (by omega) (by omega) (Fr.refl F4 _)).mono ?_
  rintro _ w5 ⟨vb, lb, er, s5, q5, rfl, f5, b5, hvb, hvbo, F5, hw5, hm5, hvbF⟩
  obtain ⟨rfl, rfl, rfl⟩ : [] = lb ∧ 0 = er ∧ kp4 = s5 := by have := kp4_e.symm.trans q5.out; simpa using this
  have HB5 := Lib.hid (HB4.out.trans (hm5.below HO4.out HB4.out.size))
  have HO5 : Hid (∀ k, F5 k → w.heap.size ≤ k) := Lib.hid (hm5.ge HO4.out HB4.out.size)
  have HP5 := Lib.hid (hm5.blk HP4.out HPF4.out)
  have HPF5 : Hid (¬ F5 pb) := Lib.hid (hm5.not_in HP4.out.lt HPF4.out)
  have HVF5 : Hid (∀ k, own (.slice Aa [5, 6, 7].length ca) k → k < w5.heap.size ∧ ¬ F5 k) := Lib.hid (hm5.apart fun k hk => ⟨HVA4.out.lt k hk, HVF4.out k hk⟩)
  have HVA5 := Lib.hid (HVA4.out.fr hm5 HVF4.out)
  obtain ⟨Ab, cb, rfl, hcb⟩ := hvb.shape
  clear hm5 hvb hvbo hvbF q5 hw4 HB4 HO4 HP4 HPF4 HVA4 HVF4 f4 b4
  obtain ⟨p0, p1, p2⟩ : w5.cell? ⟨pb, 0, none⟩ = some (.int .i64 1) ∧ w5.cell? ⟨pb, 1, none⟩ = some (.int .u64 22) ∧ w5.cell? ⟨pb, 2, none⟩ = some (.int .u64 3) := ⟨HP5.out.cell 0, HP5.out.cell 1, HP5.out.cell 2⟩
  go_wp2_with fail
  refine (pturnv_b (n := 1000000000) hw5 f5 (b5.mono (by omega)) (by omega) (by omega) (by omega) (by omega) (Fr.refl F5 _)).mono ?_
  rintro _ w6 ⟨er, s6, q6, rfl, f6, b6, F6, hw6, hm6⟩
  obtain ⟨rfl, rfl⟩ : 0 = er ∧ kp5 = s6 := by have := kp5_e.symm.trans q6.out; simpa using this
  have HB6 := Lib.hid (HB5.out.trans (hm6.below HO5.out HB5.out.size))
  have HO6 : Hid (∀ k, F6 k → w.heap.size ≤ k) := Lib.hid (hm6.ge HO5.out HB5.out.size)
  have HP6 := Lib.hid (hm6.blk HP5.out HPF5.out)
  have HPF6 : Hid (¬ F6 pb) := Lib.hid (hm6.not_in HP5.out.lt HPF5.out)
  have HVF6 : Hid (∀ k, own (.slice Aa [5, 6, 7].length ca) k → k < w6.heap.size ∧ ¬ F6 k) := Lib.hid (hm6.apart HVF5.out)
  have HVA6 := Lib.hid (HVA5.out.fr hm6 fun k hk => (HVF5.out k hk).2)
  clear hm6 q6 hw5 HB5 HO5 HP5 HPF5 HVA5 HVF5 f5 b5 p0 p1 p2
  obtain ⟨p0, p1, p2⟩ : w6.cell? ⟨pb, 0, none⟩ = some (.int .i64 1) ∧ w6.cell? ⟨pb, 1, none⟩ = some (.int .u64 22) ∧ w6.cell? ⟨pb, 2, none⟩ = some (.int .u64 3) := ⟨HP6.out.cell 0, HP6.out.cell 1, HP6.out.cell 2⟩
  go_wp2_with fail
  refine (pback_b (n := 500000000) hw6 f6 (b6.mono (by omega)) (by omega) (by omega) (by omega) (by omega) (by omega) (by omega) (Fr.refl F6 _)).mono ?_
  rintro _ w7 ⟨er, s7, q7, rfl, f7, b7, F7, hw7, hm7⟩
  obtain ⟨rfl, rfl⟩ : 0 = er ∧ kp6 = s7 := by have := kp6_e.symm.trans q7.out; simpa using this
  have HB7 := Lib.hid (HB6.out.trans (hm7.below HO6.out HB6.out.size))
  have HO7 : Hid (∀ k, F7 k → w.heap.size ≤ k) := Lib.hid (hm7.ge HO6.out HB6.out.size)
  have HP7 := Lib.hid (hm7.blk HP6.out HPF6.out)
  have HPF7 : Hid (¬ F7 pb) := Lib.hid (hm7.not_in HP6.out.lt HPF6.out)
  have HVF7 : Hid (∀ k, own (.slice Aa [5, 6, 7].length ca) k → k < w7.heap.size ∧ ¬ F7 k) := Lib.hid (hm7.apart HVF6.out)
  have HVA7 := Lib.hid (HVA6.out.fr hm7 fun k hk => (HVF6.out k hk).2)
  clear hm7 q7 hw6 HB6 HO6 HP6 HPF6 HVA6 HVF6 f6 b6 p0 p1 p2
  go_wp2_with fail
  refine (quwords_b (n := 100000000) hw7 f7 (b7.mono (by omega)) (by omega) (by omega) (Fr.refl F7 _)).mono ?_
  rintro _ w8 ⟨vc, lc, er, s8, q8, rfl, f8, b8, hvc, hvco, F8, hw8, hm8, hvcF⟩
  obtain ⟨rfl, rfl, rfl⟩ : [10, 12, 14] = lc ∧ 0 = er ∧ kp7 = s8 := by have := kp7_e.symm.trans q8.out; simpa using this
  have HB8 := Lib.hid (HB7.out.trans (hm8.below HO7.out HB7.out.size))
  have HP8 := Lib.hid (hm8.blk HP7.out HPF7.out)
  have HA8 := Lib.hid (HVA7.out.fr hm8 fun k hk => (HVF7.out k hk).2).lies
  have HC8 := Lib.hid hvc.lies
  obtain ⟨Ac, cc, rfl, hcc⟩ := hvc.shape
  clear hm8 q8 hw7 HB7 HO7 HP7 HPF7 HVA7 HVF7 f7 b7 hvc hvco hvcF hw8 f8 b8
  obtain ⟨p0, p1, p2⟩ : w8.cell? ⟨pb, 0, none⟩ = some (.int .i64 1) ∧ w8.cell? ⟨pb, 1, none⟩ = some (.int .u64 22) ∧ w8.cell? ⟨pb, 2, none⟩ = some (.int .u64 3) := ⟨HP8.out.cell 0, HP8.out.cell 1, HP8.out.cell 2⟩
  have HL1 := Lib.hid (Lies.new w8 [5, 6, 7] (by simp))
  have HA8' := Lib.hid (HA8.out.alloc (.cells #[.int .u64 5, .int .u64 6, .int .u64 7] 23))
  go_wp2_with (go_at_call 17; refine (num_b _ _).mono ?_; rintro e _ ⟨rfl, rfl⟩)
  refine (words_b (l1 := [5, 6, 7]) (l2 := [5, 6, 7]) HA8'.out HL1.out (by simp)).mono ?_
  rintro _ _ ⟨⟨n9, rfl⟩, rfl⟩
  have HC9 := Lib.hid ((HC8.out.alloc (.cells #[.int .u64 5, .int .u64 6, .int .u64 7] 23)).drewN n9)
  have HB9 := Lib.hid (below_drewNs (HB8.out.alloc HB8.out.size (.cells #[.int .u64 5, .int .u64 6, .int .u64 7] 23)) n9)
  clear HL1 HA8' HA8 HC8 HB8 HP8 p0 p1 p2
  generalize (w8.alloc (.cells #[.int .u64 5, .int .u64 6, .int .u64 7] 23)).drewN n9 = w9 at *
  have HL2 := Lib.hid (Lies.new w9 [10, 12, 14] (by simp))
  have HC9' := Lib.hid (HC9.out.alloc (.cells #[.int .u64 10, .int .u64 12, .int .u64 14] 23))
  go_wp2_with (go_at_call 17; refine (num_b _ _).mono ?_; rintro e _ ⟨rfl, rfl⟩)
  refine (words_b (l1 := [10, 12, 14]) (l2 := [10, 12, 14]) HC9'.out HL2.out (by simp)).mono ?_
  rintro _ _ ⟨⟨n10, rfl⟩, rfl⟩
  have HB10 := Lib.hid (below_drewNs (HB9.out.alloc HB9.out.size (.cells #[.int .u64 10, .int .u64 12, .int .u64 14] 23)) n10)
  go_wp2
  go_ret
  exact ⟨rfl, HB10.out⟩
end Go.Proofs.Ytcgdpclhlepofaa
