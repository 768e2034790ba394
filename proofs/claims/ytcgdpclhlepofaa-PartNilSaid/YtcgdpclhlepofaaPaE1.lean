/- A part's nodes gone over, by contract. -/
import Derived.Test.YtcgdpclhlepofaaPaA
namespace Go.Proofs.Ytcgdpclhlepofaa
open Go.RowKit
set_option maxHeartbeats 4000000
set_option linter.unusedVariables false
set_option linter.unusedSimpArgs false

set_option maxRecDepth 100000 in
theorem each_b {t n gf cb : Nat} {F F0 G : Nat → Prop} {s : St} {kind first count : Int} {w w0 : World} {J : World → (Nat → Prop) → (Nat → Prop) → List Int → Prop} {step : Int → Int → List Int → St → Int × List Int × St} (HJ : JLaw t step J gf fun nd wd => #[.int .u64 nd, .int .u64 wd, .pointer (some ⟨cb, 0, none⟩)])
    (hw : Txw w t F s) (hj : J w F G []) (hG : ∀ k, G k → k < w.heap.size) (hf : Fits s) (hb : Bud s (n + 3 * 65537)) (h1 : 0 ≤ first) (h1' : first ≤ 18446744073709551615) (h2 : 0 ≤ count) (h2' : count ≤ 18446744073709551615) (hm : Fr F0 w0 (fun k => F k ∨ G k) w) :
    Calls Try.prog 33 #[.agg #[.int .i64 kind, .int .u64 first, .int .u64 count], .func (.func 13) #[.pointer (some ⟨t, 0, none⟩)] #[], .func (.func gf) #[] #[.pointer (some ⟨cb, 0, none⟩)]] w fun e w' =>
      ∃ er l s', Hid (pAll step kind first count s = (er, l, s')) ∧ e = .returned (.int .i64 er) ∧ LftJ t n F0 w0 J s' l w' := by
  have HJ := Lib.hid HJ
  have hpb := Blk.new w 25 #[.int .i64 kind, .int .u64 first, .int .u64 count]
  have hjw := HJ.out.keep (fun k hk => hw.lt k hk) ((Fr.refl F w).alloc (.cells #[.int .i64 kind, .int .u64 first, .int .u64 count] 25)) hj
  have hTw := hw.alloc (.cells #[.int .i64 kind, .int .u64 first, .int .u64 count] 25)
  have hMw := hm.alloc (.cells #[.int .i64 kind, .int .u64 first, .int .u64 count] 25)
  have hnb : ¬ F w.heap.size := fun h => by have := hw.lt _ h; omega
  have hng : ¬ G w.heap.size := fun h => by have := hG _ h; omega
  have d0 := hpb.cell 0
  have d1 := hpb.cell 1
  have d2 := hpb.cell 2
  simp only [List.getElem?_toArray, List.getElem?_cons_zero, List.getElem?_cons_succ] at d0 d1 d2
  have hL0 := Lib.hid (show LftJ t n F0 w0 J s [] (w.alloc (.cells #[.int .i64 kind, .int .u64 first, .int .u64 count] 25)) from ⟨by simp, hf, hb.mono (by omega), F, G, hTw, hjw, hMw⟩)
  have HP := Lib.hid hpb
  have HT := Lib.hid hTw
  have HM := Lib.hid hMw
  have HI := Lib.hid hjw
  clear hpb hTw hMw hjw hw hj hm hG
  by_cases hk : kind ≠ 1 ∧ kind ≠ 2
  · have hq : Hid (pAll step kind first count s = (2, [], s)) := Lib.hid (by unfold pAll; rw [if_pos hk])
    have k1 : (kind != 1) = true := by simpa using hk.1
    have k2 : (kind != 2) = true := by simpa using hk.2
    clear hk
    go_enter Try.func33, Try.ntmps33
    go_wp2
    go_step3
    go_wp2
    try rw [Exit.noGoto_ret]
    go_ret
    exact ⟨2, [], s, hq, rfl, hL0.out⟩
  have hkc : ((kind != 1) = false ∧ kind = 1) ∨ ((kind != 1) = true ∧ (kind != 2) = false) := by
    by_cases e1 : kind = 1
    · exact .inl ⟨by simpa using e1, e1⟩
    · by_cases e2 : kind = 2
      · exact .inr ⟨by simpa using e1, by simpa using e2⟩
      · exact absurd ⟨e1, e2⟩ hk
  have hA : Hid (pAll step kind first count s = if 65536 < count ∨ ((first == 0) != (count == 0)) = true then (360, [], s) else pEach step count 65537 first 0 [] s) := Lib.hid (by unfold pAll; rw [if_neg hk])
  have hkk : Hid (((kind != 1) = false) ∨ ((kind != 1) = true ∧ (kind != 2) = false)) := Lib.hid (hkc.imp (·.1) id)
  clear hk hkc
  go_enter Try.func33, Try.ntmps33
  go_wp2
  go_step3
  generalize hWe : w.alloc (.cells #[.int .i64 kind, .int .u64 first, .int .u64 count] 25) = w1 at *
  have hpbe : w.heap.size < w1.heap.size := by rw [← hWe]; simp
  generalize hpe : w.heap.size = pb at *
  clear hWe hpe
  by_cases hbad : 65536 < count ∨ ((first == 0) != (count == 0)) = true
  · have hq : Hid (pAll step kind first count s = (360, [], s)) := Lib.hid (by rw [hA.out, if_pos hbad])
    have hbb : Hid ((decide (65536 < count) = true) ∨ (decide (65536 < count) = false ∧ (!((first == 0) == (count == 0))) = true)) := Lib.hid (by
      by_cases e : 65536 < count
      · exact .inl (decide_eq_true e)
      · exact .inr ⟨decide_eq_false e, by simpa [bne] using hbad.resolve_left e⟩)
    clear hbad hA
    rcases hkk.out with k1 | ⟨k1, k2⟩
    all_goals rcases hbb.out with b1 | ⟨b1, b2⟩
    all_goals
      clear hkk hbb
      go_wp2
      try rw [Exit.noGoto_ret]
      go_ret
      exact ⟨360, [], s, hq, rfl, hL0.out⟩
  have hq : Hid (pAll step kind first count s = pEach step count 65537 first 0 [] s) := Lib.hid (by rw [hA.out, if_neg hbad])
  have hc6 : count ≤ 65536 := by omega
  have hcz : (!((first == 0) == (count == 0))) = false := by
    cases hh : (!((first == 0) == (count == 0))) with
    | false => rfl
    | true => exact absurd (.inr (by simpa [bne] using hh)) hbad
  have hfc : Hid (first = 0 ∨ ((0 : Nat) : Int) < count) := Lib.hid (by
    by_cases e : first = 0
    · exact .inl e
    · right
      have e2 : (first == 0) = false := by simpa using e
      rw [e2] at hcz
      have : ¬ count = 0 := fun h => by rw [h] at hcz; simp at hcz
      omega)
  have b1 : decide (65536 < count) = false := decide_eq_false (by omega)
  clear hbad hA hL0
  have hcnt := Lib.hid hc6
  have HD := Lib.hid d2
  rcases hkk.out with k1 | ⟨k1, k2⟩
  all_goals
    clear hkk
    go_wp2_with fail
    go_step3
    go_wp2_with fail
    go_loopg [7, 8] 65537 (fun gk c7 c8 wr => ∃ (k : Nat) (nx : Int) (l : List Int) (s1 : St) (F1 G1 : Nat → Prop), gk + k = 65537 ∧ c7 = .int .u64 nx ∧ c8 = .int .u64 (k : Int) ∧ 0 ≤ nx ∧ nx ≤ 18446744073709551615 ∧ l.length ≤ k ∧ Hid (nx = 0 ∨ (k : Int) < count) ∧ Hid (pAll step kind first count s = pEach step count gk nx (k : Int) l s1) ∧ Fits s1 ∧ Bud s1 (n + 3 * gk) ∧ Txw wr t F1 s1 ∧ Hid (J wr F1 G1 l) ∧ Hid (Fr F0 w0 (fun k => F1 k ∨ G1 k) wr) ∧ Hid (Blk wr pb 25 #[.int .i64 kind, .int .u64 first, .int .u64 count]) ∧ ¬ F1 pb ∧ ¬ G1 pb)
    case atStart => exact ⟨0, first, [], s, F, G, rfl, rfl, rfl, h1, h1', by simp, hfc, hq, hf, hb, HT.out, HI, HM, HP, hnb, hng⟩
    case round =>
      obtain ⟨k, nx, l, s1, F1, G1, hgk, rfl, rfl, dx, dx', hlk, hcs, hR, hf1, hb1, hT1, hJ1, hM1, hP1, hn1, hg1⟩ := hrel
      clear HT HI HM HP hnb hng hf hb hfc hq d0 d1 d2 HD
      have dP := hP1.out.cell 2
      simp only [List.getElem?_toArray, List.getElem?_cons_zero, List.getElem?_cons_succ] at dP
      by_cases h0 : nx = 0
      · have h0' : (nx != 0) = false := by simpa using h0
        have hq : Hid (pAll step kind first count s = (0, l, s1)) := Lib.hid (by rw [hR.out, pEach_end h0])
        have hfin : Hid (LftJ t n F0 w0 J s1 l wr) := Lib.hid ⟨by omega, hf1, hb1.mono (by omega), F1, G1, hT1, hJ1.out, hM1.out⟩
        clear h0 hT1 hcs hR
        go_wp2
        try rw [Exit.noGoto_ret]
        go_ret
        exact ⟨0, l, s1, hq, rfl, hfin.out⟩
      have h0' : (nx != 0) = true := by simpa using h0
      have hkc := hcs.out.resolve_left h0
      obtain ⟨m, rfl⟩ : ∃ m, gk = m + 1 := ⟨gk - 1, by omega⟩
      have H0 := Lib.hid h0
      obtain ⟨u1, u2⟩ := uw_bd (nx - 1)
      have hb1 : Bud s1 ((n + 3 * m + 2) + 1) := hb1
      have HG := Lib.hid hgk
      have HK := Lib.hid hlk
      have HKC := Lib.hid hkc
      have Hn := Lib.hid hn1
      have Hg := Lib.hid hg1
      clear h0 hcs hgk hlk hkc hn1 hg1
      go_wp2_with fail
      refine (tget_b hT1 hf1 hb1 u1 (Fr.refl F1 wr)).mono ?_
      rintro _ w2 ⟨x2, e2, s2, q2, dx2, dx2', rfl, f2, b2, F2, hT2, hm2⟩
      have hJ2 : Hid (J w2 F2 G1 l) := Lib.hid (HJ.out.keep (fun k hk => hT1.lt k hk) hm2 hJ1.out)
      have hM2 : Hid (Fr F0 w0 (fun k => F2 k ∨ G1 k) w2) := Lib.hid (hM1.out.trans (hm2.side G1))
      have hn2 : Hid (¬ F2 pb) := Lib.hid fun h => (hm2.new pb h).elim Hn.out fun h => by have := hP1.out.lt; omega
      have hP2 : Hid (Blk w2 pb 25 #[.int .i64 kind, .int .u64 first, .int .u64 count]) := Lib.hid (hm2.blk hP1.out Hn.out)
      have q2 : Hid (sget s1 (IntKind.u64.wrap (nx - 1)) = (x2, e2, s2)) := q2
      have b2 : Bud s2 ((n + 3 * m + 1) + 1) := b2
      clear hT1 hf1 hb1 hm2 hJ1 hM1 hP1 dP Hn
      by_cases he2 : e2 = 0
      case neg =>
        have z1 : (e2 == 0) = false := by simpa using he2
        have z2 : (e2 != 0) = true := by simpa using he2
        have hq : Hid (pAll step kind first count s = (e2, l, s2)) := Lib.hid (by rw [hR.out, pEach_e1 H0.out q2.out he2])
        have hfin : Hid (LftJ t n F0 w0 J s2 l w2) := Lib.hid ⟨by have := HG.out; have := HK.out; omega, f2, b2.mono (by omega), F2, G1, hT2, hJ2.out, hM2.out⟩
        clear he2 hT2 hR q2
        go_wp2
        try rw [Exit.noGoto_ret]
        go_ret
        exact ⟨e2, l, s2, hq, rfl, hfin.out⟩
      subst he2
      have HE := HJ.out.ent
      go_wp2_with fail
      clear HE
      refine (HJ.out.call (n := n + 3 * m + 1) hT2 f2 b2 (by have := HG.out; have := HK.out; omega) u1 u2 dx2 dx2' hJ2.out).mono ?_
      rintro _ w3 ⟨e3, l3, s3, q3, rfl, hl3, f3, b3, F3, G3, hT3, hJ3, hm3⟩
      have hM3 : Hid (Fr F0 w0 (fun k => F3 k ∨ G3 k) w3) := Lib.hid (hM2.out.trans hm3)
      have hnn : ¬ (F2 pb ∨ G1 pb) := fun h => h.elim hn2.out Hg.out
      have hlt2 := hP2.out.lt
      have hn3 : Hid (¬ F3 pb) := Lib.hid fun h => (hm3.new pb (.inl h)).elim hnn fun h => by omega
      have hg3 : Hid (¬ G3 pb) := Lib.hid fun h => (hm3.new pb (.inr h)).elim hnn fun h => by omega
      have hP3 : Hid (Blk w3 pb 25 #[.int .i64 kind, .int .u64 first, .int .u64 count]) := Lib.hid (hm3.blk hP2.out hnn)
      have hJ3 := Lib.hid hJ3
      have HL3 := Lib.hid hl3
      have b3 : Bud s3 ((n + 3 * m) + 1) := b3
      have hlen3 : Hid (l3.length ≤ 65537) := Lib.hid (by have := HG.out; have := HK.out; omega)
      clear hT2 f2 b2 hJ2 hM2 hP2 hn2 hm3 hnn hlt2 Hg hl3
      by_cases he3 : e3 = 0
      case neg =>
        have z2 : (e3 != 0) = true := by simpa using he3
        have hq : Hid (pAll step kind first count s = (e3, l3, s3)) := Lib.hid (by rw [hR.out, pEach_e2 H0.out q2.out q3.out he3])
        have hfin : Hid (LftJ t n F0 w0 J s3 l3 w3) := Lib.hid ⟨hlen3.out, f3, b3.mono (by omega), F3, G3, hT3, hJ3.out, hM3.out⟩
        clear he3 hT3 hR q2 q3
        go_wp2
        try rw [Exit.noGoto_ret]
        go_ret
        exact ⟨e3, l3, s3, hq, rfl, hfin.out⟩
      subst he3
      go_wp2_with fail
      refine (tget_b hT3 f3 b3 (uw_bd _).1 (Fr.refl F3 w3)).mono ?_
      rintro _ w4 ⟨x4, e4, s4, q4, dx4, dx4', rfl, f4, b4, F4, hT4, hm4⟩
      have q4 : Hid (sget s3 (uAdd (IntKind.u64.wrap (nx - 1)) 1) = (x4, e4, s4)) := q4
      have hJ4 : Hid (J w4 F4 G3 l3) := Lib.hid (HJ.out.keep (fun k hk => hT3.lt k hk) hm4 hJ3.out)
      have hM4 : Hid (Fr F0 w0 (fun k => F4 k ∨ G3 k) w4) := Lib.hid (hM3.out.trans (hm4.side G3))
      have hn4 : Hid (¬ F4 pb) := Lib.hid fun h => (hm4.new pb h).elim hn3.out fun h => by have := hP3.out.lt; omega
      have hP4 : Hid (Blk w4 pb 25 #[.int .i64 kind, .int .u64 first, .int .u64 count]) := Lib.hid (hm4.blk hP3.out hn3.out)
      clear hT3 f3 b3 hm4 hJ3 hM3 hP3 hn3
      have hfin : Hid (LftJ t n F0 w0 J s4 l3 w4) := Lib.hid ⟨hlen3.out, f4, b4.mono (by omega), F4, G3, hT4, hJ4.out, hM4.out⟩
      by_cases he4 : e4 = 0
      case neg =>
        have z2 : (e4 != 0) = true := by simpa using he4
        have hq : Hid (pAll step kind first count s = (e4, l3, s4)) := Lib.hid (by rw [hR.out, pEach_e3 H0.out q2.out q3.out q4.out he4])
        clear he4 hT4 hR q2 q3 q4
        go_wp2
        try rw [Exit.noGoto_ret]
        go_ret
        exact ⟨e4, l3, s4, hq, rfl, hfin.out⟩
      subst he4
      have hR4 : Hid (pAll step kind first count s = if ((x4 == 0) == ((k : Int) + 1 == count)) = true then pEach step count m x4 ((k : Int) + 1) l3 s4 else (360, l3, s4)) := Lib.hid (by rw [hR.out, pEach_4 H0.out q2.out q3.out q4.out])
      have dP4 := hP4.out.cell 2
      simp only [List.getElem?_toArray, List.getElem?_cons_zero, List.getElem?_cons_succ] at dP4
      have hwk : IntKind.u64.wrap ((k : Int) + 1) = (k : Int) + 1 := by rw [wrap_u64_mod]; have := hcnt.out; have := HKC.out; omega
      clear hR q2 q3 q4
      cases hz : ((x4 == 0) == ((k : Int) + 1 == count))
      · have hq : Hid (pAll step kind first count s = (360, l3, s4)) := Lib.hid (by rw [hR4.out, if_neg (by rw [hz]; decide)])
        clear hR4 hT4
        go_wp2
        try rw [Exit.noGoto_ret]
        go_ret
        exact ⟨360, l3, s4, hq, rfl, hfin.out⟩
      · have hq : Hid (pAll step kind first count s = pEach step count m x4 ((k : Int) + 1) l3 s4) := Lib.hid (by rw [hR4.out, if_pos hz])
        have hcs4 : Hid (x4 = 0 ∨ (((k + 1 : Nat) : Int)) < count) := Lib.hid (by
          by_cases e : x4 = 0
          · exact .inl e
          · right
            have e2 : (x4 == 0) = false := by simpa using e
            rw [e2] at hz
            have : ¬ (k : Int) + 1 = count := fun h => by rw [h] at hz; simp at hz
            have := HKC.out
            omega)
        clear hR4
        go_wp2
        go_roundg m
        case measure => omega
        case rel => exact ⟨k + 1, x4, l3, s4, F4, G3, by have := HG.out; omega, rfl, by simp, dx4, dx4', by have := HL3.out; have := HK.out; omega, hcs4, by simpa using hq, f4, b4, hT4, hJ4, hM4, hP4, hn4.out, hg3.out⟩
end Go.Proofs.Ytcgdpclhlepofaa
