/- QueuePlays: the law's walk. -/
import Derived.Test.YtfbbmnlebibplaaQuL0
import Derived.Deep.DeepCutAuto
namespace Go.Proofs.Ytfbbmnlebibplaa
open Go.RowKit
set_option maxHeartbeats 8000000
set_option linter.unusedVariables false
set_option linter.unusedSimpArgs false

set_option maxRecDepth 100000 in
theorem queuePlays_walk {W : World} {A : Option Addr} {n c : Nat} (cells : Int) (hcl : (Lit.int .i64 cells).wf = true) (h : RowsIn W A n c [.i64, .i64, .u64]) :
    Calls Try.prog 3 #[.int .i64 cells, .slice A n c] W (TrueP W.heap.size W) := by
  have hn : n * 24 ≤ 140737488351232 := by have := h.len; simpa using this
  have hni : (n : Int) ≤ 9223372036854775807 := by omega
  have hnb : n + 1 ≤ 5900000000000 := by omega
  have H := Lib.hid h
  have hcb := bd_i64 hcl
  obtain ⟨k0, hk0, en, e1, e2, e3⟩ := which cells 400 (by omega) (by omega)
  have e1 : IntKind.i64.wrap (cells.tmod 400) = cells.tmod 400 := e1
  have e2 : IntKind.i64.wrap (cells.tmod 400 + 400) = cells.tmod 400 + 400 := e2
  have en : (cells.tmod 400 + 400).tmod 400 = (k0 : Int) := en
  obtain ⟨cn, hcn, hc1, hc2⟩ : ∃ cn : Nat, (18 : Int) + k0 = (cn : Int) ∧ 18 ≤ cn ∧ cn ≤ 417 := ⟨18 + k0, by simp, by omega, by omega⟩
  have HE4 := Lib.hid hcn
  clear h hcl hcn
  go_enter Try.func3, Try.ntmps3
  go_wp2_with fail
  rw [HE4.out]
  clear HE4 en e1 e2 e3 hk0
  clear en e1 e2
  refine (laid_b cn hc1 (by omega) W).mono ?_
  rintro _ w1 ⟨b1, F1, rfl, hw1, ho1, hf1, hbu1, hb1⟩
  have HW1 := Lib.hid hw1
  have HO1 := Lib.hid ho1
  have HB1 := Lib.hid hb1
  clear hw1 ho1 hb1
  go_wp2_with fail
  refine (laid_b cn hc1 (by omega) _).mono ?_
  rintro _ w2 ⟨b2, F2, rfl, hw2, ho2, hf2, hbu2, hb2⟩
  simp only [World.size_alloc] at ho2 hb2
  obtain ⟨X0, hq0⟩ := qw_start HW1.out HO1.out HB1.out hw2 ho2 hb2
  obtain ⟨hl0, hleft0, hrm0⟩ := laid_start cn hc1 (by omega)
  have hok0 : Ok (laidSt cn) (2000000 + 400000 * n) := ⟨hleft0, hbu1.mono (by omega)⟩
  have hS0 : Hid (StepP W.heap.size W w2.heap.size w1.heap.size b2 cn (2000000 + 400000 * n) 0 (w2.alloc (.cells #[.pointer (some ⟨w1.heap.size, 0, none⟩), .pointer (some ⟨b2, 0, none⟩), .slice none 0 0] 31))) :=
    Lib.hid ⟨_, _, X0, _, _, [], _, hq0, hf1, hf1, hok0, hok0, qi_start cn hc1 (by omega), Nat.zero_le _, by rw [hl0]; omega⟩
  clear HW1 HO1 HB1 hw2 ho2 hb2 hq0 hl0 hleft0 hrm0 hok0 hf1 hbu1 hf2 hbu2
  go_wp2_with fail
  generalize w2.alloc (.cells #[.pointer (some ⟨w1.heap.size, 0, none⟩), .pointer (some ⟨b2, 0, none⟩), .slice none 0 0] 31) = w3 at *
  generalize w2.heap.size = xb at *
  generalize w1.heap.size = t at *
  go_loopg [6] n (fun gk c6 wr => ∃ i : Nat, gk + i = n ∧ c6 = .int .i64 (i : Int) ∧ Hid (StepP W.heap.size W xb t b2 cn (2000000 + 400000 * gk) i wr))
  case atStart => exact ⟨0, rfl, rfl, hS0⟩
  case round =>
    obtain ⟨i, hgk, rfl, HS⟩ := hrel
    have HG := Lib.hid hgk
    clear hgk hS0
    by_cases hi : i < n
    · obtain ⟨g, rfl⟩ : ∃ g, gk = g + 1 := ⟨gk - 1, by have := HG.out; omega⟩
      obtain ⟨ad, rfl⟩ : ∃ ad, A = some ad := by
        cases A with
        | none => have := (H.out.nil rfl).1; omega
        | some ad => exact ⟨ad, rfl⟩
      obtain ⟨K, a0, d0⟩ := H.out.cell ad rfl i hi 0 _ rfl
      obtain ⟨on, a1, d1⟩ := H.out.cell ad rfl i hi 1 _ rfl
      obtain ⟨wd, a2, d2⟩ := H.out.cell ad rfl i hi 2 _ rfl
      rw [addr_flat (by omega)] at a1 a2
      have hbw := HS.out.bel
      have a0 := keepCell hbw (Nat.le_refl _) a0
      have a1 := keepCell hbw (Nat.le_refl _) a1
      have a2 := keepCell hbw (Nat.le_refl _) a2
      simp only [List.length_cons, List.length_nil, Nat.add_zero, Nat.zero_add, Nat.reduceAdd] at a0 a1 a2
      have y1 := bd_i64 d1
      have y2 := bd_u64 d2
      have hii : (i : Int) < n := by omega
      clear hbw d0 d1 d2
      go_wp2_with fail
      refine (step_b (m := 2000000 + 400000 * g) (HS.out.mono (by omega) (Nat.le_refl _)) (by omega) (by omega) y1 y2).mono ?_
      rintro _ w5 ⟨rfl, HS5⟩
      obtain ⟨v, ps, X, s, r, qs, back, hQ, hfs, hfr, hs, hr, hqi, hl, hlw⟩ := HS5
      have HQ5 := Lib.hid hQ
      have HQI := Lib.hid hqi
      clear HS a0 a1 a2 y1 y2 hQ hqi
      go_wp2_with fail
      go_loopg [7] qs.length (fun gk c7 wr => ∃ k : Nat, gk + k = qs.length ∧ c7 = .int .i64 (k : Int) ∧ Hid (Qw W.heap.size W wr xb t b2 v ps X s r qs))
      case atStart => exact ⟨0, rfl, rfl, HQ5⟩
      case round =>
        obtain ⟨k, hgk, rfl, HQ⟩ := hrel
        have HG2 := Lib.hid hgk
        clear hgk HQ5
        by_cases hk : k < qs.length
        · obtain ⟨g2, rfl⟩ : ∃ g2, gk = g2 + 1 := ⟨gk - 1, by have := HG2.out; omega⟩
          obtain ⟨A1, cp, b3, v3, hve, hcp, x0, x1, x2, z2, t0, b0, hl3⟩ := HQ.out.cells
          obtain ⟨lg, lo, lc, hve2, hat⟩ := HQ.out.at_ hk
          subst hve
          rw [Value.slice.injEq] at hve2
          obtain ⟨rfl, -, rfl⟩ := hve2
          have hq2 := HQ.out.q k qs[k] (List.getElem?_eq_getElem hk)
          obtain ⟨A4, c4, A5, c5, q0, q1, q2, hc4, hc5, kN, kW⟩ := hq2.cells
          have hmem := List.getElem_mem hk
          obtain ⟨g1, g2', g3, g4⟩ := HQI.out.inn hmem (pcs_hd _)
          simp only at g1 g2' g3 g4
          have hcnt := HQI.out.cnt' hmem
          have hwh := Lib.hid (HQI.out.whole hmem (by omega))
          have hwd := Lib.hid (HQI.out.st _ hmem).lnk.words
          have hnin : Hid (∀ x ∈ qs[k].nodes, 0 ≤ x ∧ x + 1 < (s.W.length : Int)) := Lib.hid fun x hx => by
            have := HQI.out.inn hmem (pcs_nd hx)
            simp only at this
            omega
          have hlen := Lib.hid (HQI.out.st _ hmem).lnk.len
          have HL3 := Lib.hid hl3
          have KN := Lib.hid kN
          have KW := Lib.hid kW
          have hki : (k : Int) < qs.length := by omega
          clear hq2 hl3 kN kW hmem
          have HQA : Hid (qs[k]? = some qs[k]) := Lib.hid (List.getElem?_eq_getElem hk)
          generalize qs[k] = q at *
          obtain ⟨qd, qns, qws⟩ := q
          simp only at q0 q1 q2 hc4 hc5 g1 g2' g3 g4 hcnt hwh hwd hnin hlen KN KW
          generalize hlq : qs.length = ln at *
          have HLQ := Lib.hid hlq
          clear hlq
          go_wp2
          refine wp_region_mix (fun _ => True) [3, 3, 3, 1, 3, 3, 1, 3, 3, 1, 3, 3, 3, 1, 3, 3, 1, 3, 3, 1, 2, 3, 3, 3, 3, 3] (List.range 26) (by kernel_rfl) (by kernel_rfl) (fun _ _ h => h) trivial ?_
          repeat ((first | refine wpMix_pure rfl rfl (fun K hK => ?_) | refine wpMix_loc rfl rfl (fun K hK => ?_) | refine wpMix_any rfl rfl (fun K hK => ?_)); go_simp; refine hK _ _ ?_; clear hK K)
          refine wpMix_loud rfl rfl (fun n1 K hK => ?_)
          go_wp2_with fail
          refine (whole_b (HL3.out.drewN (1 + n1)) hfs.words (by omega) (by omega) (by omega)).mono ?_
          rintro _ w6 ⟨u6, l6, ok6, q6, rfl, hv6, ho6, hb6⟩
          obtain ⟨rfl, rfl⟩ : qns = l6 ∧ true = ok6 := by have := hwh.out.symm.trans q6.out; simpa using this
          have HQ6 := Lib.hid ((HQ.out.drewN (1 + n1)).old hb6)
          have HV6 := Lib.hid hv6.lies
          clear hv6 ho6 hb6 q6 HQ HL3 KN KW x0 x1 x2 z2 t0 b0 hat q0 q1 q2
          go_wp2
          refine hK _ _ (fun _ => trivial) ?_; clear hK K
          repeat ((first | refine wpMix_pure rfl rfl (fun K hK => ?_) | refine wpMix_loc rfl rfl (fun K hK => ?_) | refine wpMix_any rfl rfl (fun K hK => ?_)); go_simp; refine hK _ _ ?_; clear hK K)
          refine wpMix_nil (fun n2 => ?_)
          obtain ⟨w7, hw7⟩ : ∃ v, v = w6.drewN n2 := ⟨_, rfl⟩
          have HQ7 := Lib.hid (HQ6.out.drewN n2)
          have HV7 := Lib.hid (HV6.out.drewN n2)
          rw [← hw7] at HQ7 HV7
          rw [← hw7]
          clear hw7 HQ6 HV6
          obtain ⟨A1', cp', b7, v7, hve7, _, x0, x1, x2, z2, t0, b0, hl7⟩ := HQ7.out.cells
          have hk' : k < qs.length := by rw [HLQ.out]; exact hk
          obtain ⟨lg', lo', lc', hve8, hat⟩ := HQ7.out.at_ hk'
          rw [Value.slice.injEq] at hve7 hve8
          obtain ⟨rfl, -, rfl⟩ := hve7
          obtain ⟨hve8, -, rfl⟩ := hve8
          simp only [Option.some.injEq, Addr.mk.injEq, and_true] at hve8
          obtain ⟨rfl, rfl⟩ := hve8
          rw [HLQ.out] at x2
          obtain ⟨A6, c6, A7, c7, q0, q1, q2, hc6, hc7, kN, kW⟩ := (HQ7.out.q k _ (HQA.out)).cells
          have HL7 := Lib.hid hl7
          have KN := Lib.hid kN
          have KW := Lib.hid kW
          have X2 := Lib.hid x2
          have HAT := Lib.hid hat
          have Q2 := Lib.hid q2
          clear hl7 kN kW
          simp only at q0 q1 q2 hc6 hc7
          go_wp2
          refine wp_region_mix (fun W' => W'.cell? ⟨xb, 2, none⟩ = some (.slice (some ⟨lg, lo, none⟩) ln cp) ∧ W'.cell? ⟨lg, lo + k, none⟩ = some (.pointer (some ⟨ps k, 0, none⟩)) ∧ W'.cell? ⟨ps k, 2, none⟩ = some (.slice A7 qws.length c7)) [3, 3, 3, 3, 3, 3, 3, 1, 3, 3, 1, 3, 3, 1, 2, 3, 3, 3, 3, 3, 3, 1, 3, 3, 1, 3, 3, 1, 3, 2, 3, 3, 3, 0, 3, 3, 0, 3, 3, 0, 2, 3, 3] [0, 1, 2, 3, 4, 5, 6, 7, 8, 9, 10, 11, 12, 13, 14, 15, 16, 17, 18, 19, 20, 21, 22, 23, 24, 25, 26, 27, 28, 30, 31, 32, 33, 34, 35, 36, 37, 38, 39, 29, 40, 41, 42] (by kernel_rfl) (by kernel_rfl) (fun _ _ h => h) ⟨X2.out, HAT.out, Q2.out⟩ ?_
          repeat (first | ((first | refine wpMix_pure rfl rfl (fun K hK => ?_) | refine wpMix_loc rfl rfl (fun K hK => ?_) | refine wpMix_any rfl rfl (fun K hK => ?_)); go_simp; refine hK _ _ ?_; clear hK K) | (refine wpMix_any rfl rfl (fun K hK => ?_); rw [if_pos (by go_simp)]; apply Exists.intro; refine And.intro (fun w2 hS2 => ?_) (hK _ _ ?_); (focus (obtain ⟨hs1, hs2, hs3⟩ := hS2; go_simp; rfl)); clear hK K))
          refine wpMix_loud rfl rfl (fun n3 K hK => ?_)
          go_wp2_with fail
          refine (same_b (HV7.out.drewN (1 + n3)) (KN.out.drewN (1 + n3)) (by omega)).mono ?_
          rintro _ _ ⟨rfl, n4, rfl⟩
          go_wp2
          refine hK _ _ (fun _ => ⟨X2.out, HAT.out, Q2.out⟩) ?_; clear hK K
          obtain ⟨w8, hw8⟩ : ∃ v, v = w7.drewN (1 + n3 + n4) := ⟨_, rfl⟩
          have HQ8 := Lib.hid (HQ7.out.drewN (1 + n3 + n4))
          have HV8 := Lib.hid (HV7.out.drewN (1 + n3 + n4))
          have HL8 := Lib.hid (HL7.out.drewN (1 + n3 + n4))
          have KW8 := Lib.hid (KW.out.drewN (1 + n3 + n4))
          have e0 : w8.cell? ⟨xb, 0, none⟩ = some (.pointer (some ⟨t, 0, none⟩)) := by rw [hw8]; exact x0
          have e1 : w8.cell? ⟨t, 0, none⟩ = some (.pointer (some ⟨b7, 0, none⟩)) := by rw [hw8]; exact t0
          have e2 : w8.cell? ⟨b7, 0, none⟩ = some v7 := by rw [hw8]; exact b0
          have X8 : Hid (w8.cell? ⟨xb, 2, none⟩ = some (.slice (some ⟨lg, lo, none⟩) ln cp) ∧ w8.cell? ⟨lg, lo + k, none⟩ = some (.pointer (some ⟨ps k, 0, none⟩)) ∧ w8.cell? ⟨ps k, 2, none⟩ = some (.slice A7 qws.length c7)) := Lib.hid (by rw [hw8]; exact ⟨X2.out, HAT.out, Q2.out⟩)
          rw [← hw8] at HQ8 HV8 HL8 KW8
          rw [← hw8]
          clear hw8 HQ7 HV7 HL7 x0 x1 x2 z2 t0 b0 hat q0 q1 q2 X2 HAT Q2 KN KW
          obtain ⟨x2, hat, q2⟩ := X8.out
          repeat (first | ((first | refine wpMix_pure rfl rfl (fun K hK => ?_) | refine wpMix_loc rfl rfl (fun K hK => ?_) | refine wpMix_any rfl rfl (fun K hK => ?_)); go_simp; refine hK _ _ ?_; clear hK K) | (refine wpMix_any rfl rfl (fun K hK => ?_); rw [if_pos (by go_simp)]; apply Exists.intro; refine And.intro (fun w2 hS2 => ?_) (hK _ _ ?_); (focus (obtain ⟨hs1, hs2, hs3⟩ := hS2; go_simp; rfl)); clear hK K))
          refine wpMix_loud rfl rfl (fun n5 K hK => ?_)
          go_wp2_with fail
          refine (refwords_b (HL8.out.drewN n5) (HV8.out.drewN n5) hfs.words hnin.out (by omega)).mono ?_
          rintro _ w9 ⟨u9, rfl, hv9, ho9, hb9⟩
          rw [hwd.out] at hv9
          have HQ9 := Lib.hid ((HQ8.out.drewN n5).old hb9)
          have HV9 := Lib.hid hv9.lies
          have KW9 := Lib.hid ((KW8.out.drewN n5).below hb9)
          have X9 : Hid (w9.cell? ⟨xb, 2, none⟩ = some (.slice (some ⟨lg, lo, none⟩) ln cp) ∧ w9.cell? ⟨lg, lo + k, none⟩ = some (.pointer (some ⟨ps k, 0, none⟩)) ∧ w9.cell? ⟨ps k, 2, none⟩ = some (.slice A7 qws.length c7)) := Lib.hid ⟨keepCell hb9 (Nat.le_refl _) X8.out.1, keepCell hb9 (Nat.le_refl _) X8.out.2.1, keepCell hb9 (Nat.le_refl _) X8.out.2.2⟩
          clear hv9 ho9 hb9 HQ8 HV8 HL8 KW8 e0 e1 e2 x2 hat q2
          go_wp2
          refine hK _ _ (fun _ => X9.out) ?_; clear hK K
          refine wpMix_loud rfl rfl (fun n6 K hK => ?_)
          go_wp2_with fail
          refine (same_b (HV9.out.drewN n6) (KW9.out.drewN n6) (by have := hlen.out; omega)).mono ?_
          rintro _ _ ⟨rfl, n7, rfl⟩
          clear HV9 KW9 X9
          go_wp2
          refine hK _ _ (fun h => (Bool.false_ne_true ((Eq.symm (by kernel_rfl)).trans h)).elim) ?_; clear hK K
          repeat ((first | refine wpMix_pure rfl rfl (fun K hK => ?_) | refine wpMix_loc rfl rfl (fun K hK => ?_) | refine wpMix_any rfl rfl (fun K hK => ?_)); go_simp; refine hK _ _ ?_; clear hK K)
          refine wpMix_nil (fun n8 => ?_)
          have HQB9 := Lib.hid (HQ9.out.drewN (n6 + n7 + n8))
          clear HQ9
          go_wp2
          go_roundg g2
          case measure => omega
          case rel => exact ⟨k + 1, by have := HG2.out; have := HLQ.out; omega, by go_num, HQB9⟩
        · have HS9 : Hid (StepP W.heap.size W xb t b2 cn (2000000 + 400000 * g) (i + 1) wr) := Lib.hid ⟨v, ps, X, s, r, qs, back, HQ.out, hfs, hfr, hs, hr, HQI.out, hl, hlw⟩
          obtain ⟨A1, cp, b3, v3, hve, hcp, x0, x1, x2, z2, t0, b0, hl3⟩ := HQ.out.cells
          have hki : (qs.length : Int) ≤ k := by omega
          clear hve hl3 HQ HQI
          generalize qs.length = ln at *
          go_wp2
          go_roundg g
          case measure => omega
          case rel => exact ⟨i + 1, by have := HG.out; omega, by go_num, HS9⟩
    · obtain rfl : i = n := by have := HG.out; omega
      obtain rfl : gk = 0 := by have := HG.out; omega
      obtain ⟨v, ps, X, s, r, qs, back, hQ, hfs, hfr, hs, hr, hqi, hl, hlw⟩ := HS.out
      have HQ5 := Lib.hid hQ
      clear HS hQ hi
      go_wp2
      go_loopg [10] 16 (fun gk c10 wr => ∃ (k : Nat) (s r : St) (X : Nat → Nat → Prop), gk + k = 17 ∧ 1 ≤ k ∧ c10 = .int .u64 (k : Int) ∧ Fits s ∧ Fits r ∧ Ok s (1000 + 65537 * gk) ∧ Ok r (1000 + 65537 * gk) ∧ Hid (Qi s.W r.W cn qs back) ∧ Hid (Qw W.heap.size W wr xb t b2 v ps X s r qs))
      case atStart => exact ⟨1, s, r, X, rfl, Nat.le_refl _, rfl, hfs, hfr, hs.mono (by omega), hr.mono (by omega), Lib.hid hqi, HQ5⟩
      case round =>
        clear hfs hfr hs hr hqi HQ5
        obtain ⟨k, s, r, X, hgk, hk1, rfl, hfs, hfr, hs, hr, HQI, HQ⟩ := hrel
        have HG2 := Lib.hid hgk
        clear hgk
        by_cases hk : k ≤ 16
        · obtain ⟨g2, rfl⟩ : ∃ g2, gk = g2 + 1 := ⟨gk - 1, by have := HG2.out; omega⟩
          have hs' : Ok s ((1000 + 65537 * g2) + 65537) := hs.mono (by omega)
          have hr' : Ok r ((1000 + 65537 * g2) + 65537) := hr.mono (by omega)
          obtain ⟨lg, er, s', r', a1, a2, a3, a4, a5, a6⟩ := given_two hs' hr' HQI.out hk1 hk
          have Q1 := Lib.hid a1
          have Q2 := Lib.hid a2
          have HI2 : Hid (Qi s'.W r'.W cn qs back) := Lib.hid (by rw [a3, a4]; exact HQI.out)
          obtain ⟨bt, Gt, hbt, hwt, hFt⟩ := HQ.out.tx
          have c0 := hbt.cell 0
          obtain ⟨A1, cp, b3, v3, hve, hcp, x0, x1, x2, z2, t0, b0, hl3⟩ := HQ.out.cells
          obtain rfl : bt = b3 := by simp only [List.getElem?_toArray, List.getElem?_cons_zero] at c0; rw [c0] at t0; simpa using t0
          have hki : (k : Int) ≤ 16 := by omega
          have hk1i : (1 : Int) ≤ k := by omega
          have HBT := Lib.hid hbt
          have HWT := Lib.hid hwt
          have HFT := Lib.hid hFt
          clear hve hl3 a1 a2 a3 a4 hbt hwt hFt c0 hs hr HQI
          go_wp2_with fail
          refine (wgiven_b (n := 1000 + 65537 * g2) HWT.out hfs hs'.2 (by omega) hk1i hki (Fr.refl _ _)).mono ?_
          rintro _ w7 ⟨v7, l7, e7, s7, q7, rfl, f7, bu7, hv7, hvo7, F7, hw7, hm7, hn7⟩
          obtain ⟨rfl, rfl, rfl⟩ : lg = l7 ∧ er = e7 ∧ s' = s7 := by have := Q1.out.symm.trans q7.out; simpa using this
          obtain ⟨_, _, F8, ht8, hm8⟩ := Txw.step HBT.out HWT.out (Fr.refl (X 0) wr) HFT.out (show LftW bt (1000 + 65537 * g2) Gt wr s' w7 from ⟨f7, bu7, F7, hw7, hm7⟩)
          have HQ7 := Lib.hid (HQ.out.step0 ht8 hm8)
          have HV7 := Lib.hid hv7
          have hn8 : Hid (∀ k, own v7 k → ¬ upd X 0 F8 1 k) := Lib.hid fun k hk hx => by
            rw [upd_ne _ _ (by omega)] at hx
            have := hvo7 k hk
            have := HQ.out.fam.lt 1 k hx
            omega
          clear hv7 hvo7 hw7 hm7 hn7 ht8 hm8 q7 Q1 HBT HWT HFT HQ x0 x1 x2 z2 t0 b0
          obtain ⟨A1, cp, b3, v3, hve, hcp, x0, x1, x2, z2, t0, b0, hl3⟩ := HQ7.out.cells
          clear hve hl3
          go_wp2_with fail
          refine (wgiven_b (n := 1000 + 65537 * g2) HQ7.out.wl hfr hr'.2 (by omega) hk1i hki (Fr.refl _ _)).mono ?_
          rintro _ w9 ⟨v9, l9, e9, s9, q9, rfl, f9, bu9, hv9, hvo9, F9, hw9, hm9, hn9⟩
          obtain ⟨rfl, rfl, rfl⟩ : lg = l9 ∧ er = e9 ∧ r' = s9 := by have := Q2.out.symm.trans q9.out; simpa using this
          have HQ9 := Lib.hid (HQ7.out.step1 hw9 hm9)
          have HV79 := Lib.hid (HV7.out.fr hm9 hn8.out).lies
          have HV9 := Lib.hid hv9.lies
          have hll : Hid ((lg.length : Int) ≤ 9223372036854775807) := Lib.hid (by
            obtain ⟨A', c', e', hc'⟩ := hv9.shape
            rw [e'] at hv9
            rcases hv9.2 with ⟨_, h0⟩ | ⟨_, _, _, _, _, _, _, h4, h5, _⟩
            · omega
            · unfold maxLen at h5; omega)
          clear hv9 hvo9 hw9 hm9 hn9 q9 Q2 HQ7 HV7 hn8 x0 x1 x2 z2 t0 b0
          go_wp2_with fail
          refine (same_b HV79.out HV9.out hll.out).mono ?_
          rintro _ _ ⟨rfl, n10, rfl⟩
          have HQ10 := Lib.hid (HQ9.out.drewN n10)
          clear HQ9 HV79 HV9
          go_wp2
          go_roundg g2
          case measure => omega
          case rel => exact ⟨k + 1, s', r', _, by have := HG2.out; omega, by omega, by go_num, f7, f9, a5, a6, HI2, HQ10⟩
        · obtain rfl : k = 17 := by have := HG2.out; omega
          obtain ⟨A1, cp, b3, v3, hve, hcp, x0, x1, x2, z2, t0, b0, hl3⟩ := HQ.out.cells
          obtain ⟨A2, c2', y0, hc2', hly, hyc⟩ := HQ.out.wl.words
          have hwl := HQI.out.rm.to0
          have hrl := HQI.out.rr.to0
          obtain ⟨A3, c3, rfl, hc3, hnl3, hcs⟩ := hl3
          obtain ⟨ga, oa, rfl, ca⟩ := hcs 0 (by omega)
          obtain ⟨gb, ob, rfl, _, _, cb, _⟩ := hyc 0 (by omega)
          rw [HQI.out.eq0] at ca
          simp only [Nat.add_zero] at ca cb
          have hb := Lib.hid HQ.out.bel
          have hsl : (0 : Int) < s.W.length := by omega
          have hrl0 : (0 : Int) < r.W.length := by omega
          clear hve hcs hly hyc HQ HQI hk
          have hsn : 0 < s.W.length := by omega
          have hrn : 0 < r.W.length := by omega
          generalize r.W.getD 0 0 = w00 at *
          generalize s.W.length = sl at *
          generalize r.W.length = rl at *
          go_wp2
          refine wp_region_mix (fun _ => True) [3, 3, 3, 1, 3, 3, 1, 3, 3, 1, 3, 1, 3, 3, 3, 1, 3, 3, 1, 3, 1, 3, 3, 2, 3, 3, 2, 3, 3] (List.range 29) (by kernel_rfl) (by kernel_rfl) (fun _ _ h => h) trivial ?_
          repeat ((first | refine wpMix_pure rfl rfl (fun K hK => ?_) | refine wpMix_loc rfl rfl (fun K hK => ?_) | refine wpMix_any rfl rfl (fun K hK => ?_)); go_simp; refine hK _ _ ?_; clear hK K)
          refine wpMix_loud rfl rfl (fun n11 K hK => ?_)
          go_wp2_with fail
          refine (nothing_b _).mono ?_
          rintro _ w12 ⟨rfl, hb12⟩
          have hB12 := Lib.hid ((below_drewNs hb.out (1 + n11)).trans (hb12.mono (by have := hb.out.size; simpa using this)))
          clear hb12 hb x0 x1 x2 z2 t0 b0 ca cb y0
          go_wp2
          refine hK _ _ (fun _ => trivial) ?_; clear hK K
          repeat ((first | refine wpMix_pure rfl rfl (fun K hK => ?_) | refine wpMix_loc rfl rfl (fun K hK => ?_) | refine wpMix_any rfl rfl (fun K hK => ?_)); go_simp; refine hK _ _ ?_; clear hK K)
          refine wpMix_loud rfl rfl (fun n13 K hK => ?_)
          go_wp2_with fail
          refine (works_b _).mono ?_
          rintro _ w14 ⟨rfl, hb14⟩
          have hB14 := Lib.hid ((below_drewNs hB12.out n13).trans (hb14.mono (by have := hB12.out.size; simpa using this)))
          clear hb14 hB12
          go_wp2
          refine hK _ _ (fun _ => trivial) ?_; clear hK K
          repeat ((first | refine wpMix_pure rfl rfl (fun K hK => ?_) | refine wpMix_loc rfl rfl (fun K hK => ?_) | refine wpMix_any rfl rfl (fun K hK => ?_)); go_simp; refine hK _ _ ?_; clear hK K)
          refine wpMix_nil (fun n15 => ?_)
          go_wp2
          go_ret
          exact ⟨rfl, below_drewNs hB14.out n15⟩
end Go.Proofs.Ytfbbmnlebibplaa
