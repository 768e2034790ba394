/- The law OpaqueSights: its walk, behind the contracts of Sights, Check and Behind. -/
import Derived.Test.YtloiadhdkgkjkaaRows
import Derived.ProofKit
import Derived.OpenShut
import Derived.ChangeOld
import Derived.Below
import Derived.SizedLaws
import Derived.Deep.Slices
import Derived.Deep.Fields
import Derived.ChangeSame
import Derived.Carry
import Derived.Test.YtloiadhdkgkjkaaWl
import Derived.Test.YtloiadhdkgkjkaaEvX
import Derived.Test.YtloiadhdkgkjkaaOpE
import Derived.Test.YtloiadhdkgkjkaaPSg1
import Derived.Test.YtloiadhdkgkjkaaPSg8
import Derived.Test.YtloiadhdkgkjkaaPSg9
namespace Go.Proofs.Ytloiadhdkgkjkaa
open Go.RowKit
set_option maxHeartbeats 40000000
set_option linter.unusedVariables false
set_option linter.unusedSimpArgs false
theorem Sl.blw {α : Type} {e : TypeId} {sz : Nat} {enc : α → List Value} {w w' : World} {v : Value} {l : List α} (h : Sl e sz enc w v l) (hb : Below w.heap.size w w') : Sl e sz enc w' v l := h.keep fun k hk => hb.block k (h.lt k hk)
theorem Blk.blw {w w' : World} {b : Nat} {t : TypeId} {cs : Array Value} (h : Blk w b t cs) (hb : Below w.heap.size w w') : Blk w' b t cs := h.below hb h.lt
theorem Sl.encEq {w : World} {v : Value} {l l' : List (Sg × Int)} (h : Sl 40 10 encG w v l) (e : l.map encG = l'.map encG) : Sl 40 10 encG w v l' := by
  have h1 : l.length = l'.length := by have := congrArg List.length e; simpa using this
  have h2 : l.flatMap encG = l'.flatMap encG := by rw [List.flatMap_def, List.flatMap_def, e]
  unfold Sl at h ⊢
  rw [← h1, ← h2]
  exact h
theorem sigR_cnt (first : List Int) (l : List Ev) (hwf : ∀ e ∈ l, EvWf e) (hsz : l.length * 48 + 480 ≤ 140737488355328) : ((sigR first l).length + 20) * 80 ≤ 140737488355328 := by
  unfold sigR
  split
  · simp
  · rename_i h
    have h0 : (seeOdd first.length l).2 = 0 := by simpa using h
    obtain ⟨-, hodd, -, -⟩ := seeOdd_ok (seeOdd_zero h0)
    have hok := okTo_of_odd hodd l.length (Nat.le_refl _)
    rw [List.length_map, trsF_rn]
    have h1 := (inv_rn hwf (Nat.le_refl _) (fun j hj => hok j hj)).two
    have h2 := lives_le (rn l l.length)
    omega
set_option maxRecDepth 100000 in
theorem sights_law (SC : SightsC) (CK : CheckC) (BH : BehindC) {w : World} {Fv : Value} {A : Option Addr} {cp : Nat} {first : List Int} {l : List Ev} (hF : Lies w Fv first) (hL : LiesV w (.slice A l.length cp) l) (hwf : ∀ e ∈ l, EvWf e) (hsz : l.length * 48 + 480 ≤ 140737488355328)
    (hfl : first.length * 8 ≤ 140737488355328) (hfb : ∀ x ∈ first, 0 ≤ x ∧ x ≤ 18446744073709551615) (EQ : (sigA first l).map encG = (sigR first l).map encG) (EQC : chkA first l = chkR first l) :
    Calls Try.prog 3 #[Fv, .slice A l.length cp] w fun x w' => x = .returned (.bool true) ∧ Below w.heap.size w w' := by
  obtain ⟨Af, cf, rfl, -⟩ := (show ∃ A cp, Fv = .slice A first.length cp ∧ True from by obtain ⟨A, cp, h1, _⟩ := hF; exact ⟨A, cp, h1, trivial⟩)
  have hlen : (l.length : Int) ≤ 9223372036854775807 := by omega
  have hfi : (first.length : Int) ≤ 9223372036854775807 := by omega
  have hfl' : first.length ≤ 9223372036854775807 := by omega
  have C1 := Lib.hid (lent_b hL hsz)
  have hF8 := Lib.hid hfl
  replace hL := Lib.hid hL
  replace hF := Lib.hid hF
  obtain ⟨o1, ho1⟩ : ∃ o1, (seeOdd first.length l).1 = o1 := ⟨_, rfl⟩
  obtain ⟨o2, ho2⟩ : ∃ o2, (seeOdd first.length l).2 = o2 := ⟨_, rfl⟩
  obtain ⟨r, hr⟩ : ∃ r, chkR first l = r := ⟨_, rfl⟩
  have hSL : (sigA first l).length = (sigR first l).length := by have := congrArg List.length EQ; simpa using this
  have hRl := sigR_len first l
  go_enter Try.func3, Try.ntmps3
  go_wp2_with fail
  refine C1.out.mono ?_
  rintro _ w1 ⟨hb1, A1, c1, rfl, hc1, hM1, ho1'⟩
  have hF1 := hF.out.below hb1
  go_wp2_with (at_builtin; refine wpList_wcopy w1 rfl _ _ rfl _ first rfl rfl hF1 hF8.out ?_; intro A2 c2 w2 hc2 hW2 hb2 ho2')
  have hM2 := hM1.keep (w' := w2) fun k hk => hb2.block k (hM1.lt k hk)
  have hbw2 := hb1.trans (hb2.mono hb1.size)
  have OI : ∀ W, Below w2.heap.size w2 W → OpIn W (.slice A2 first.length c2) (.slice A1 l.length c1) first l := fun W hb =>
    ⟨(hW2.lies.below hb), (((hM2.lcut hc1).liesV hwf (by have := hL.out.len; omega)).below hb (Nat.le_refl _)), hwf, hsz, hfl', hfb⟩
  have S1 := Lib.hid (SC _ _ _ _ _ (OI w2 (Below.refl _ _)))
  rw [ho1, ho2] at S1
  clear C1 hF1
  go_wp2_with fail
  refine S1.out.mono ?_
  rintro _ w3 ⟨hb3, va, rfl, hSa, hoa⟩
  obtain ⟨Aa, ca, rfl, -⟩ := hSa.shape
  have hSa' := hSa.encEq EQ
  rw [hSL] at hSa' hoa
  rw [hSL]
  have hbu3 := hb3.alloc hb3.size (.cells #[.int .i64 o1, .int .i64 o2] 28)
  have O3 := Blk.new w3 28 #[.int .i64 o1, .int .i64 o2]
  have S2 := Lib.hid (SC _ _ _ _ _ (OI _ hbu3))
  rw [ho1, ho2] at S2
  go_wp2_with fail
  refine S2.out.mono ?_
  rintro _ w4 ⟨hb4, vb, rfl, hSb, hob⟩
  obtain ⟨Ab, cb, rfl, -⟩ := hSb.shape
  have hSb' := hSb.encEq EQ
  rw [hSL] at hSb' hob
  rw [hSL]
  have hb24 := hbu3.trans (hb4.mono hbu3.size)
  have hbu4 := hb24.alloc hb24.size (.cells #[.int .i64 o1, .int .i64 o2] 28)
  have O4 := Blk.new w4 28 #[.int .i64 o1, .int .i64 o2]
  have S3 := Lib.hid (CK _ _ _ _ _ (OI _ hbu4))
  rw [ho1, ho2, EQC, hr] at S3
  go_wp2_with fail
  refine S3.out.mono ?_
  rintro _ w5 ⟨hb5, rfl⟩
  have hb25 := hbu4.trans (hb5.mono hbu4.size)
  have hbu5 := hb25.alloc hb25.size (.cells #[.int .i64 o1, .int .i64 o2] 28)
  have O5 := Blk.new w5 28 #[.int .i64 o1, .int .i64 o2]
  have hw5 := hbw2.trans (hbu5.mono hbw2.size)
  have S4 := Lib.hid (rsights_b (hF.out.below hw5) (hL.out.below hw5 (Nat.le_refl _)) hwf hsz hfl')
  rw [ho1, ho2] at S4
  go_wp2_with fail
  refine S4.out.mono ?_
  rintro _ w6 ⟨hb6, vc, rfl, hSc, hoc⟩
  obtain ⟨Ac, cc, rfl, -⟩ := hSc.shape
  have hb26 := hbu5.trans (hb6.mono hbu5.size)
  have hbu6 := hb26.alloc hb26.size (.cells #[.int .i64 o1, .int .i64 o2] 28)
  have O6 := Blk.new w6 28 #[.int .i64 o1, .int .i64 o2]
  have hw6 := hbw2.trans (hbu6.mono hbw2.size)
  have S5 := Lib.hid (rcheck16_b (hF.out.below hw6) (hL.out.below hw6 (Nat.le_refl _)) hwf hsz hfl')
  rw [ho1, ho2, hr] at S5
  go_wp2_with fail
  refine S5.out.mono ?_
  rintro _ w7 ⟨hb7, rfl⟩
  have hb27 := hbu6.trans (hb7.mono hbu6.size)
  have hbu7 := hb27.alloc hb27.size (.cells #[.int .i64 o1, .int .i64 o2] 28)
  have O7 := Blk.new w7 28 #[.int .i64 o1, .int .i64 o2]
  have hs3 := hb3.alloc hb3.size (.cells #[.int .i64 o1, .int .i64 o2] 28)
  have hs4 := hb4.alloc hb4.size (.cells #[.int .i64 o1, .int .i64 o2] 28)
  have hs5 := hb5.alloc hb5.size (.cells #[.int .i64 o1, .int .i64 o2] 28)
  have hs6 := hb6.alloc hb6.size (.cells #[.int .i64 o1, .int .i64 o2] 28)
  have hs7 := hb7.alloc hb7.size (.cells #[.int .i64 o1, .int .i64 o2] 28)
  have hwE := hbw2.trans (hbu7.mono hbw2.size)
  have Q3 := (((O3.blw hs4).blw hs5).blw hs6).blw hs7
  have Q4 := ((O4.blw hs5).blw hs6).blw hs7
  have Q5 := (O5.blw hs6).blw hs7
  have Q6 := O6.blw hs7
  have Q7 := O7
  have Ta := Lib.hid (((((hSa'.alloc (.cells #[.int .i64 o1, .int .i64 o2] 28)).blw hs4).blw hs5).blw hs6).blw hs7)
  have Tb := Lib.hid ((((hSb'.alloc (.cells #[.int .i64 o1, .int .i64 o2] 28)).blw hs5).blw hs6).blw hs7)
  have Tc := Lib.hid ((hSc.alloc (.cells #[.int .i64 o1, .int .i64 o2] 28)).blw hs7)
  have TM := Lib.hid (hM2.blw hbu7)
  have TW := Lib.hid (hW2.keep fun k hk => hbu7.block k (hW2.lt k hk))
  have TF := hF.out.below hwE
  have TL := hL.out.below hwE (Nat.le_refl _)
  have nab : Hid (∀ q, own (.slice Aa (sigR first l).length ca) q → ¬ own (.slice Ab (sigR first l).length cb) q) := Lib.hid fun q h1 h2 => by
    have h3 := hSa'.lt q h1
    have h4 := hob q h2
    rw [World.size_alloc] at h4
    omega
  have nac : Hid (∀ q, own (.slice Aa (sigR first l).length ca) q → ¬ own (.slice Ac (sigR first l).length cc) q) := Lib.hid fun q h1 h2 => by
    have h3 := hSa'.lt q h1
    have h4 := hoc q h2
    have := hs4.size
    have := hs5.size
    have h5 : w3.heap.size ≤ (w3.alloc (.cells #[.int .i64 o1, .int .i64 o2] 28)).heap.size := by simp
    omega
  have hoa' : Hid (∀ q, own (.slice Aa (sigR first l).length ca) q → w2.heap.size ≤ q) := Lib.hid hoa
  have hw2 : Hid (w.heap.size ≤ w2.heap.size) := Lib.hid hbw2.size
  obtain ⟨E, hE⟩ : ∃ E, E = w7.alloc (.cells #[.int .i64 o1, .int .i64 o2] 28) := ⟨_, rfl⟩
  rw [← hE] at Q3 Q4 Q5 Q6 Q7 Ta Tb Tc TM TW TF TL hwE hbu7
  replace hbu7 := Lib.hid hbu7
  replace hwE := Lib.hid hwE
  clear hs3 hs4 hs5 hs6 hs7 O3 O4 O5 O6 O7 hSa hSa' hSb hSb' hSc hM1 hM2 hW2 hb1 hb2 hb3 hb4 hb5 hb6 hb7 hbu3 hb24 hbu4 hb25 hbu5 hb26 hbu6 hb27 hw5 hw6 hbw2 hoa hob hoc ho1' ho2' S1 S2 S3 S4 S5 OI
  have y30 := (Q3.cell 0).trans (show _ = some (.int .i64 o1) from rfl)
  have y31 := (Q3.cell 1).trans (show _ = some (.int .i64 o2) from rfl)
  have y40 := (Q4.cell 0).trans (show _ = some (.int .i64 o1) from rfl)
  have y41 := (Q4.cell 1).trans (show _ = some (.int .i64 o2) from rfl)
  have y50 := (Q5.cell 0).trans (show _ = some (.int .i64 o1) from rfl)
  have y51 := (Q5.cell 1).trans (show _ = some (.int .i64 o2) from rfl)
  have y60 := (Q6.cell 0).trans (show _ = some (.int .i64 o1) from rfl)
  have y61 := (Q6.cell 1).trans (show _ = some (.int .i64 o2) from rfl)
  have y70 := (Q7.cell 0).trans (show _ = some (.int .i64 o1) from rfl)
  have y71 := (Q7.cell 1).trans (show _ = some (.int .i64 o2) from rfl)
  have hne := fun W => odd_neq o1 o2 o1 o2 W
  simp only [decide_true, Bool.and_self, Bool.not_true] at hne
  have CE := Lib.hid (rsameS_b Ta.out Tc.out (by omega))
  have CL := Lib.hid (fun n => left_b (TM.out.drewN n) hc1 (TL.drewN n) hwf hsz (TW.out.lies.drewN n) (TF.drewN n) hfi)
  have KN := Lib.hid (known_b CK BH)
  replace TL := Lib.hid TL
  replace TF := Lib.hid TF
  have hRi : ((sigR first l).length : Int) ≤ 9223372036854775807 := by omega
  have hR80 : Hid (((sigR first l).length + 20) * 80 ≤ 140737488355328) := Lib.hid (sigR_cnt first l hwf hsz)
  replace hr := Lib.hid hr
  replace ho1 := Lib.hid ho1
  replace ho2 := Lib.hid ho2
  replace hRl := Lib.hid hRl
  clear EQ EQC hSL Q3 Q4 Q5 Q6 Q7
  generalize sigR first l = R at *
  subst hE
  go_wp2_with fail
  refine CE.out.mono ?_
  rintro _ _ ⟨rfl, n1, rfl⟩
  go_wp2_with fail
  refine (CL.out _).mono ?_
  rintro _ _ ⟨rfl, n2, rfl⟩
  go_wp2_with fail
  obtain ⟨E, hE⟩ : ∃ E, E = ((w7.alloc (.cells #[.int .i64 o1, .int .i64 o2] 28)).drewN (n1 + n2)) := ⟨_, rfl⟩
  have Va := Lib.hid (Ta.out.drewN (n1 + n2))
  have Vb := Lib.hid (Tb.out.drewN (n1 + n2))
  have Vc := Lib.hid (Tc.out.drewN (n1 + n2))
  have VM := Lib.hid (TM.out.drewN (n1 + n2))
  have VW := Lib.hid (TW.out.drewN (n1 + n2))
  have VF := Lib.hid (TF.out.drewN (n1 + n2))
  have VL := Lib.hid (TL.out.drewN (n1 + n2))
  have hbE := Lib.hid (below_drewNs hwE.out (n1 + n2))
  rw [← hE] at Va Vb Vc VM VW VF VL hbE ⊢
  replace hE := Lib.hid hE
  clear Ta Tb Tc TM TW TF TL hwE hbu7 CE CL y30 y31 y40 y41 y50 y51 y60 y61 y70 y71 hne
  have hS0 := Va
  go_loopw [17] (fun c17 wr => ∃ (k : Nat) (L : List (Sg × Int)), k ≤ R.length ∧ L.length = R.length ∧ c17 = .int .i64 (k : Int) ∧ Hid (Sl 40 10 encG wr (.slice Aa R.length ca) L) ∧ Hid (Fr (own (.slice Aa R.length ca)) E (own (.slice Aa R.length ca)) wr)) (fun c17 _ => R.length - (intOf c17).toNat)
  case atStart => exact ⟨0, R, Nat.zero_le _, rfl, rfl, Va, Lib.hid (Fr.refl _ _)⟩
  case round =>
    obtain ⟨k, L, hk, hLl, rfl, hS, hFr⟩ := hrel
    by_cases hlt : k < R.length
    · have b1 : (k : Int) < R.length := by omega
      have w1 := IntWalk.i64_in (n := (k : Int) + 1) (by omega)
      have hkL : k < L.length := by omega
      obtain ⟨g, o, rfl, hg, hc⟩ := hS.out.cell encG_len (by decide) hkL
      obtain ⟨rr, hS2⟩ := Sl.put10 hS.out hkL 0 0 0 (-9) 0 0 0 0 0 0
      have hS3 := Lib.hid hS2
      have c := fun q h => hc k hkL q h
      generalize L[k] = x at *
      obtain ⟨⟨⟨a0, a1, a2, a3, a4, a5, a6⟩, rr2, a7, a8⟩, a9⟩ := x
      have d0 := (c 0 (by decide)).1
      have z0 := (c 0 (by decide)).2
      have d1 := (c 1 (by decide)).1
      have z1 := (c 1 (by decide)).2
      have d2 := (c 2 (by decide)).1
      have z2 := (c 2 (by decide)).2
      have d3 := (c 3 (by decide)).1
      have z3 := (c 3 (by decide)).2
      have d4 := (c 4 (by decide)).1
      have z4 := (c 4 (by decide)).2
      have d5 := (c 5 (by decide)).1
      have z5 := (c 5 (by decide)).2
      have d6 := (c 6 (by decide)).1
      have z6 := (c 6 (by decide)).2
      have d7 := (c 7 (by decide)).1
      have z7 := (c 7 (by decide)).2
      have d8 := (c 8 (by decide)).1
      have z8 := (c 8 (by decide)).2
      have d9 := (c 9 (by decide)).1
      have z9 := (c 9 (by decide)).2
      simp only [encG, List.getElem?_cons_zero, List.getElem?_cons_succ, Nat.add_zero] at d0 d1 d2 d3 d4 d5 d6 d7 d8 d9
      simp only [Nat.add_zero] at z0
      simp only [← Nat.add_assoc] at d1 d2 d3 d4 d5 d6 d7 d8 d9 z1 z2 z3 z4 z5 z6 z7 z8 z9
      have hgo : own (.slice (some ⟨g, o, none⟩) R.length ca) g := by simp [own, Value.ownBlock]
      have hF3 := Lib.hid ((((((((((hFr.out.set (p := ⟨g, o + k * 10, none⟩) (.inl hgo) (.int .i64 0)).set (p := ⟨g, o + k * 10 + 1, none⟩) (.inl hgo) (.int .i64 0)).set (p := ⟨g, o + k * 10 + 2, none⟩) (.inl hgo) (.int .i64 0)).set (p := ⟨g, o + k * 10 + 3, none⟩) (.inl hgo) (.int .u64 0)).set (p := ⟨g, o + k * 10 + 4, none⟩) (.inl hgo) (.int .i64 0)).set (p := ⟨g, o + k * 10 + 5, none⟩) (.inl hgo) (.int .i64 0)).set (p := ⟨g, o + k * 10 + 6, none⟩) (.inl hgo) (.int .i64 0)).set (p := ⟨g, o + k * 10 + 7, none⟩) (.inl hgo) (.int .i64 0)).set (p := ⟨g, o + k * 10 + 8, none⟩) (.inl hgo) (.int .i64 0)).set (p := ⟨g, o + k * 10 + 9, none⟩) (.inl hgo) (.int .i64 (-9)))
      replace hgo := Lib.hid hgo
      clear c hc hS2 hS hFr
      go_wp2
      go_roundw
      case rel => exact ⟨k + 1, _, hlt, by rw [List.length_set]; exact hLl, by go_num, hS3, hF3⟩
      case measure => simp [intOf]; omega
    · have hk2 : k = R.length := by omega
      subst hk2
      clear Va
      replace hLl := Lib.hid hLl
      obtain ⟨E2, hE2⟩ : ∃ E2 : World, E2 = wr := ⟨_, rfl⟩
      subst hE2
      go_wp2
      go_loopw [7, 18] (fun c7 c18 wr => ∃ (k : Nat) (L' : List (Sg × Int)), k ≤ 20 ∧ L'.length = R.length + k ∧ c18 = .int .i64 (k : Int) ∧ (∃ A7 cap7, c7 = .slice A7 (R.length + k) cap7) ∧ Hid (Sl 40 10 encG wr c7 L') ∧ Hid (Fr (own (.slice Aa R.length ca)) E (own c7) wr)) (fun _ c18 _ => 20 - (intOf c18).toNat)
      case atStart =>
        refine ⟨0, L, Nat.zero_le _, hLl.out, ?_, ?_, ?_, ?_⟩
        · rfl
        · exact ⟨Aa, ca, by simp⟩
        · exact hS
        · exact hFr
      case round =>
        obtain ⟨k, L', hk, hLl', rfl, ⟨A7, cap7, rfl⟩, hS, hFr⟩ := hrel
        by_cases hlt : k < 20
        · have b1 : (k : Int) < 20 := by omega
          have w1 := IntWalk.i64_in (n := (k : Int) + 1) (by omega)
          have hsz7 : Hid ((R.length + k + 1) * 80 ≤ 140737488355328) := Lib.hid (Nat.le_trans (Nat.mul_le_mul_right 80 (Nat.add_le_add_left hlt R.length)) hR80.out)
          have FIN : Hid (∀ A8 cap8 w8 y, Sl 40 10 encG w8 (.slice A8 (R.length + k + 1) cap8) (L' ++ [y]) → Fr (own (.slice A7 (R.length + k) cap7)) wr (own (.slice A8 (R.length + k + 1) cap8)) w8 → Fr (own (.slice Aa R.length ca)) E (own (.slice A8 (R.length + k + 1) cap8)) w8) := Lib.hid fun A8 cap8 w8 y _ hF8 => hFr.out.trans hF8
          go_wp2_with (at_builtin; refine wpList_gON wr rfl (.tmp 99) (.tmp 101) rfl (.slice A7 (R.length + k) cap7) L' ((⟨⟨0, 0, 0, 0, 0, 0, 0⟩, [], 0, 0⟩ : Sg), 0) (R.length + k) hLl' rfl hS.out rfl hsz7.out ?_; intro A8 cap8 w8 hS8 hF8; have FN := Lib.hid (FIN.out A8 cap8 w8 _ hS8 hF8); replace hS8 := Lib.hid hS8; clear hF8)
          go_roundw
          case rel => exact ⟨k + 1, _, hlt, by rw [List.length_append]; simp; omega, by go_num, ⟨A8, cap8, rfl⟩, hS8, FN⟩
          case measure => simp [intOf]; omega
        · have hk2 : k = 20 := by omega
          subst hk2
          have g20 : (20 : Int) ≤ ((R.length + 20 : Nat) : Int) := by omega
          have hkb : ∀ q, q < E.heap.size → ¬ own (.slice Aa R.length ca) q → wr.heap[q]? = E.heap[q]? := hFr.out.block
          have Zb := Vb.out.keep (w' := wr) fun q hq => hkb q (Vb.out.lt q hq) (fun h => nab.out q h hq)
          have Zc := Vc.out.keep (w' := wr) fun q hq => hkb q (Vc.out.lt q hq) (fun h => nac.out q h hq)
          have ZM := VM.out.keep (w' := wr) fun q hq => hkb q (VM.out.lt q hq) (fun h => by obtain ⟨cs, hb⟩ := VM.out.ofBlk hq; exact Sl.ne_ hS0.out hb (by decide) h)
          have ZW := VW.out.keep (w' := wr) fun q hq => hkb q (VW.out.lt q hq) (fun h => by obtain ⟨cs, hb⟩ := hS0.out.ofBlk h; exact Sl.ne_ (wl_sl VW.out) hb (by decide) hq)
          have hbZ : Below w.heap.size w wr := hbE.out.trans (hFr.out.below (fun q hq => Nat.le_trans hw2.out (hoa'.out q hq)) hbE.out.size)
          have ZF := hF.out.below hbZ
          have ZL := hL.out.below hbZ (Nat.le_refl _)
          have CE := Lib.hid (rsameS_b Zb Zc hRi)
          have CL := Lib.hid (fun n => left_b (ZM.drewN n) hc1 (ZL.drewN n) hwf hsz (ZW.lies.drewN n) (ZF.drewN n) hfi)
          replace hbZ := Lib.hid hbZ
          clear Zb Zc ZM ZW ZF ZL hkb hS hFr
          go_wp2_with fail
          refine CE.out.mono ?_
          rintro _ _ ⟨rfl, n3, rfl⟩
          go_wp2_with fail
          refine (CL.out _).mono ?_
          rintro _ _ ⟨rfl, n4, rfl⟩
          go_wp2_with fail
          refine (KN.out _).mono ?_
          rintro _ w9 ⟨rfl, hb9⟩
          have hbF := Lib.hid (hbZ.out.trans (Below.mono (show Below wr.heap.size wr w9 from ⟨hb9.os, hb9.tape, hb9.output, hb9.size, hb9.block⟩) hbZ.out.size))
          clear hb9
          go_wp2
          go_ret
          exact ⟨rfl, hbF.out⟩
end Go.Proofs.Ytloiadhdkgkjkaa
/- Arguments opened: slices of whole numbers, slices of structs of whole numbers. -/
namespace Go.Proofs.Ytloiadhdkgkjkaa
open Go.ChangeShapes Go.WideShapes Go.ChangeAt Go.RowKit Go.Deep

section
variable {H : Type} {enc : TypeId × Value → H} {P : Program} {w : World} {base : Nat} {spare : Nat → Bool} {held : Bool}
/-- A slice of structs of one-cell fields: each field's cell and reading. -/
theorem open_slice_fields {t e : TypeId} {fs : Array Field} {fuel : Nat} {cs : List Value} {x : DataW H × List MemPlace} (ht : P.underlying t = some (.slice e)) (he : P.underlying e = some (.struct fs))
    (hone : oneCellFields P fs = true) (hC : P.cellsOf e = fs.size) (h : DataW.trod enc P w base spare held fuel t cs = some x) :
    (cs = [.slice none 0 0] ∧ x = (.nil, [])) ∨
    ∃ (a : Addr) (len cap m : Nat) (D : Nat → DataW H) (Pl : Nat → List MemPlace), cs = [.slice (some a) len cap] ∧ base ≤ a.block ∧ len ≤ cap ∧ cap ≤ maxLen ∧ m = (if spare a.block then cap else len) ∧
      x = (.slice ((List.range len).map D) ((List.range (m - len)).map fun j => D (len + j)), MemPlace.row a (m * fs.size) ++ (List.range m).flatMap Pl) ∧
      ∀ i, i < m → ∃ (ys : List (DataW H × List MemPlace)) (n : Nat), D i = .agg (ys.map (·.1)) ∧ Pl i = ys.flatMap (·.2) ∧ ys.length = fs.size ∧
        ∀ (j : Nat) (f : Field), fs[j]? = some f → ∃ (v : Value) (y : DataW H × List MemPlace), w.cell? (a.add (i * fs.size + j)) = some v ∧ ys[j]? = some y ∧ DataW.trod enc P w base spare held n f.type [v] = some y := by
  rcases open_slice ht h with h0 | ⟨a, len, cap, m, n, D, Pl, hcs, hb, hl, hm, hmm, hx, hi⟩
  · exact .inl h0
  · refine .inr ⟨a, len, cap, m, D, Pl, hcs, hb, hl, hm, hmm, by rw [hC] at hx; exact hx, fun i him => ?_⟩
    obtain ⟨cs', hc, ht'⟩ := hi i him
    rw [hC] at hc
    obtain ⟨ys, n', hn', hy, hlen, hyl, hf⟩ := DataW.trod_struct he ht'
    obtain ⟨_, hcl, hat⟩ := World.cells?_some hc
    simp only [Prod.mk.injEq] at hy
    refine ⟨ys, n', hy.1, hy.2, hyl, fun j f hj => ?_⟩
    obtain ⟨ho, hk⟩ := hone_of hone j f hj
    have hjl : j < fs.size := (Array.getElem?_eq_some_iff.1 hj).1
    have hcell := hat j hjl
    have hv : cs'[j]? = some (cs'[j]'(by omega)) := List.getElem?_eq_getElem (by omega)
    have h1 := hf j f hj
    rw [ho, hk] at h1
    have hone' : (cs'.drop j).take 1 = [cs'[j]'(by omega)] := by
      rw [List.drop_eq_getElem_cons (by omega)]
      rfl
    rw [hone'] at h1
    have hys : ys[j]? = some (ys[j]'(by omega)) := List.getElem?_eq_getElem (by omega)
    refine ⟨_, _, ?_, hys, h1.trans hys⟩
    rw [← Go.Deep.add_add, hcell, hv]

theorem addr_block {a : Addr} {n : Nat} : (a.add n).block = a.block := by unfold Addr.add; split <;> rfl
theorem addr_flat {a : Addr} {i j : Nat} (hj : j ≠ 0) : a.add (i + j) = ⟨(a.add i).block, (a.add i).off + j, none⟩ := by
  unfold Addr.add
  rw [if_neg (by omega)]
  split
  · rename_i h; subst h; simp
  · simp [Nat.add_assoc]
theorem spotless {a : Addr} {n : Nat} {v : Value} (h : w.cell? (a.add n) = some v) : a.add n = ⟨a.block, a.off + n, none⟩ := by
  unfold Addr.add at *
  split
  · rename_i hn
    subst hn
    simp only [if_true] at h
    unfold World.cell? at h
    cases a with
    | mk b o s =>
      cases s with
      | none => rfl
      | some s =>
        simp only [Option.isSome_some, if_true] at h
        split at h <;> cases h
  · rfl

/-- A slice of words that came in. -/
structure WordsIn (w : World) (A : Option Addr) (l : List Int) (c : Nat) : Prop where
  nil : A = none → l = [] ∧ c = 0
  cell : ∀ ad, A = some ad → ∀ j, j < l.length → w.cell? (ad.add j) = some (.int .u64 (l.getD j 0))
  bd : ∀ x ∈ l, 0 ≤ x ∧ x ≤ 18446744073709551615
  len : l.length * 8 ≤ 140737488351232
  cap : l.length ≤ c

/-- A slice of structs of whole numbers that came in. -/
structure RowsIn (w : World) (A : Option Addr) (n c : Nat) (ks : List IntKind) : Prop where
  nil : A = none → n = 0 ∧ c = 0
  cell : ∀ ad, A = some ad → ∀ i, i < n → ∀ j k, ks[j]? = some k → ∃ z, w.cell? (ad.add (i * ks.length + j)) = some (.int k z) ∧ (Lit.int k z).wf = true
  len : n * (8 * ks.length) ≤ 140737488351232

theorem open_words {ts : List TypeId} {ds : List (DataW H)} {j : Nat} {t e : TypeId} {A : Option Addr} {len cap : Nat} {d : DataW H} {p : List MemPlace} (hsz : (DataW.weightsEach P ts ds).all (· ≤ reachBytes) = true) (hj : ts[j]? = some t) (hd : ds[j]? = some d)
    (ht : P.underlying t = some (.slice e)) (he : P.underlying e = some (.int .u64)) (hc : P.cellsOf e = 1) (hb : P.bytesOf e = 8) (h : DataW.Trod enc P w base spare held t (.slice A len cap) d p) : ∃ l, l.length = len ∧ WordsIn w A l cap := by
  obtain ⟨fuel, hf⟩ := h
  rcases open_ints ht he hc hf with ⟨hcs, hx⟩ | ⟨x, l, c, zs, hcs, _, hl, hm, hz, hx, hcell, hwz⟩
  · simp [Value.cells] at hcs
    obtain ⟨rfl, rfl, rfl⟩ := hcs
    exact ⟨[], rfl, fun _ => ⟨rfl, rfl⟩, (fun ad h => nomatch h), by simp, by simp, by simp⟩
  · simp [Value.cells] at hcs
    obtain ⟨rfl, rfl, rfl⟩ := hcs
    have hlz : len ≤ zs.length := by rw [hz]; split <;> omega
    simp only [Prod.mk.injEq] at hx
    have := sized_slice hsz hj (hd.trans (by rw [hx.1])) ht
    rw [hb] at this
    simp only [lits, List.length_map, List.length_take, List.length_drop, reachBytes] at this
    refine ⟨zs.take len, by simp; omega, (fun h => nomatch h), fun ad h i hi => ?_, fun z hz => ?_, by simp; omega, by simp; omega⟩
    · injection h with h
      subst h
      simp only [List.length_take] at hi
      rw [hcell i (by omega)]
      simp [List.getD_eq_getElem?_getD, show i < len by omega]
    · have := hwz z (List.mem_of_mem_take hz)
      simp [Lit.wf, IntKind.min, IntKind.max, IntKind.signed, IntKind.bits] at this
      omega

theorem open_rows {ts : List TypeId} {ds : List (DataW H)} {j : Nat} {t e : TypeId} {A : Option Addr} {len cap : Nat} {d : DataW H} {p : List MemPlace} (hsz : (DataW.weightsEach P ts ds).all (· ≤ reachBytes) = true) (hj : ts[j]? = some t) (hd : ds[j]? = some d)
    {fs : Array Field} {ks : List IntKind} (ht : P.underlying t = some (.slice e)) (he : P.underlying e = some (.struct fs)) (hone : oneCellFields P fs = true) (hC : P.cellsOf e = fs.size) (hb : 8 * ks.length ≤ P.bytesOf e) (hn : ks.length = fs.size) (hk : (fs.toList.map fun f => P.underlying f.type) = ks.map fun k => some (.int k))
    (h : DataW.Trod enc P w base spare held t (.slice A len cap) d p) : RowsIn w A len cap ks := by
  obtain ⟨fuel, hf⟩ := h
  rcases open_slice_fields ht he hone hC hf with ⟨hcs, hx⟩ | ⟨a, l, c, m, D, Pl, hcs, _, hl, hm, hmm, hx, hel⟩
  · simp [Value.cells] at hcs
    obtain ⟨rfl, rfl, rfl⟩ := hcs
    exact ⟨fun _ => ⟨rfl, rfl⟩, (fun ad h => nomatch h), by simp⟩
  · simp [Value.cells] at hcs
    obtain ⟨rfl, rfl, rfl⟩ := hcs
    have hlm : len ≤ m := by rw [hmm]; split <;> omega
    simp only [Prod.mk.injEq] at hx
    have := sized_slice hsz hj (hd.trans (by rw [hx.1])) ht
    simp only [List.length_map, List.length_range, reachBytes] at this
    have h8 : (len + (m - len)) * (8 * ks.length) ≤ (len + (m - len)) * P.bytesOf e := Nat.mul_le_mul_left _ hb
    have h9 : len * (8 * ks.length) ≤ (len + (m - len)) * (8 * ks.length) := Nat.mul_le_mul_right _ (by omega)
    refine ⟨(fun h => nomatch h), fun ad h i hi j' k hjk => ?_, by omega⟩
    injection h with h
    subst h
    obtain ⟨ys, n, _, _, _, hfl⟩ := hel i (by omega)
    have hjl : j' < ks.length := (List.getElem?_eq_some_iff.1 hjk).1
    have hjf : j' < fs.size := by omega
    obtain ⟨v, y, hcell, _, ht'⟩ := hfl j' fs[j'] (Array.getElem?_eq_getElem hjf)
    have e1 : ((fs.toList.map fun f => P.underlying f.type))[j']? = some (P.underlying fs[j'].type) := by simp [hjf]
    rw [hk, List.getElem?_map, hjk] at e1
    simp only [Option.map_some, Option.some.injEq] at e1
    obtain ⟨z, hz, _, hw⟩ := DataW.trod_int e1.symm ht'
    injection hz with hz
    subst hz
    exact ⟨z, by rw [hn]; exact hcell, hw⟩
end
end Go.Proofs.Ytloiadhdkgkjkaa
/- Slices of structs some of whose fields are slices of words: opened field by field. -/
namespace Go.Proofs.Ytloiadhdkgkjkaa
open Go.ChangeShapes Go.WideShapes Go.RowKit Go.Deep
set_option linter.unusedVariables false
section
variable {P : Program} {H : Type} {enc : TypeId × Value → H} {w : World} {base : Nat} {spare : Nat → Bool} {held : Bool}
theorem weights_all {e : TypeId} {d : DataW H} : ∀ {l : List (DataW H)}, d ∈ l → ∀ x ∈ d.weights P e, x ∈ DataW.weightsAll P e l
  | y :: l, hd, x, hx => by
    rw [DataW.weightsAll]
    rcases List.mem_cons.1 hd with rfl | h
    · exact List.mem_append_left _ hx
    · exact List.mem_append_right _ (weights_all h x hx)
theorem weights_each {d : DataW H} {t : TypeId} : ∀ {ts : List TypeId} {l : List (DataW H)} {j : Nat}, ts[j]? = some t → l[j]? = some d → ∀ x ∈ d.weights P t, x ∈ DataW.weightsEach P ts l
  | t' :: ts, y :: l, 0, ht, hd, x, hx => by
    simp only [List.getElem?_cons_zero, Option.some.injEq] at ht hd
    subst ht hd
    rw [DataW.weightsEach]
    exact List.mem_append_left _ hx
  | t' :: ts, y :: l, j + 1, ht, hd, x, hx => by
    rw [DataW.weightsEach]
    exact List.mem_append_right _ (weights_each (by simpa using ht) (by simpa using hd) x hx)
  | [], _, _, ht, _, _, _ => by simp at ht
  | _ :: _, [], _, _, hd, _, _ => by simp at hd
theorem open_fields {ts : List TypeId} {ds : List (DataW H)} {j : Nat} {t e : TypeId} {A : Option Addr} {len cap : Nat} {d : DataW H} {p : List MemPlace} (hsz : (DataW.weightsEach P ts ds).all (· ≤ reachBytes) = true) (hj : ts[j]? = some t) (hd : ds[j]? = some d)
    {fs : Array Field} (ht : P.underlying t = some (.slice e)) (he : P.underlying e = some (.struct fs)) (hone : oneCellFields P fs = true) (hC : P.cellsOf e = fs.size)
    (h : DataW.Trod enc P w base spare held t (.slice A len cap) d p) : (A = none → len = 0 ∧ cap = 0) ∧ len * P.bytesOf e ≤ 140737488351232 ∧
      ∀ ad, A = some ad → ∀ i, i < len → ∀ (j : Nat) (f : Field), fs[j]? = some f → ∃ v y n, w.cell? (ad.add (i * fs.size + j)) = some v ∧ DataW.trod enc P w base spare held n f.type [v] = some y ∧ ∀ x ∈ y.1.weights P f.type, x ≤ 140737488351232 := by
  obtain ⟨fuel, hf⟩ := h
  have hall : ∀ x ∈ DataW.weightsEach P ts ds, x ≤ 140737488351232 := fun x hx => by
    have := List.all_eq_true.1 hsz x hx
    exact of_decide_eq_true this
  have hdw := weights_each (P := P) hj hd
  rcases open_slice_fields ht he hone hC hf with ⟨hcs, hx⟩ | ⟨a, l, c, m, D, Pl, hcs, _, hl, hm, hmm, hx, hel⟩
  · simp [Value.cells] at hcs
    obtain ⟨rfl, rfl, rfl⟩ := hcs
    exact ⟨fun _ => ⟨rfl, rfl⟩, by simp, (fun ad h => nomatch h)⟩
  · simp [Value.cells] at hcs
    obtain ⟨rfl, rfl, rfl⟩ := hcs
    have hlm : len ≤ m := by rw [hmm]; split <;> omega
    simp only [Prod.mk.injEq] at hx
    have hw : d.weights P t = (((List.range len).map D).length + ((List.range (m - len)).map fun j => D (len + j)).length) * P.bytesOf e :: (DataW.weightsAll P e ((List.range len).map D) ++ DataW.weightsAll P e ((List.range (m - len)).map fun j => D (len + j))) := by
      rw [hx.1, DataW.weights]
      simp only [ht]
    refine ⟨(fun h => nomatch h), ?_, fun ad h i hi j' f hf' => ?_⟩
    · have := hall _ (hdw _ (by rw [hw]; exact List.mem_cons_self))
      simp only [List.length_map, List.length_range] at this
      exact Nat.le_trans (Nat.mul_le_mul_right _ (by omega)) this
    · injection h with h
      subst h
      obtain ⟨ys, n, hD, _, hlen, hfl⟩ := hel i (by omega)
      obtain ⟨v, y, hcell, hy, ht'⟩ := hfl j' f hf'
      refine ⟨v, y, n, hcell, ht', fun x hx2 => hall x (hdw x ?_)⟩
      rw [hw]
      refine List.mem_cons_of_mem _ (List.mem_append_left _ (weights_all (d := D i) (List.mem_map.2 ⟨i, List.mem_range.2 hi, rfl⟩) x ?_))
      rw [hD, DataW.weights]
      simp only [he]
      exact weights_each (j := j') (by simpa using congrArg (Option.map Field.type) hf') (by rw [List.getElem?_map, hy]; rfl) x hx2
theorem words_field {t e : TypeId} {n : Nat} {v : Value} {y : DataW H × List MemPlace} (ht : P.underlying t = some (.slice e)) (he : P.underlying e = some (.int .u64)) (hc : P.cellsOf e = 1) (hb : P.bytesOf e = 8)
    (h : DataW.trod enc P w base spare held n t [v] = some y) (hw : ∀ x ∈ y.1.weights P t, x ≤ 140737488351232) : ∃ A l c, v = .slice A l.length c ∧ WordsIn w A l c := by
  rcases open_ints ht he hc h with ⟨hcs, hx⟩ | ⟨a, l, c, zs, hcs, _, hl, hm, hz, hx, hcell, hwz⟩
  · injection hcs with hcs
    subst hcs
    exact ⟨none, [], 0, rfl, fun _ => ⟨rfl, rfl⟩, (fun ad h => nomatch h), by simp, by simp, by simp⟩
  · injection hcs with hcs
    subst hcs
    have hlz : l ≤ zs.length := by rw [hz]; split <;> omega
    have h1 : y.1 = .slice (lits .u64 (zs.take l)) (lits .u64 (zs.drop l)) := by rw [hx]
    have := hw _ (by rw [h1, DataW.weights]; simp only [ht]; exact List.mem_cons_self)
    rw [hb] at this
    simp only [lits, List.length_map, List.length_take, List.length_drop] at this
    have el : (zs.take l).length = l := by rw [List.length_take]; omega
    refine ⟨some a, zs.take l, c, by rw [el], (fun h => nomatch h), fun ad h i hi => ?_, fun z hz => ?_, by rw [el]; omega, by rw [el]; omega⟩
    · injection h with h
      subst h
      rw [el] at hi
      rw [hcell i (by omega)]
      simp [List.getD_eq_getElem?_getD, hi]
    · have := hwz z (List.mem_of_mem_take hz)
      simp [Lit.wf, IntKind.min, IntKind.max, IntKind.signed, IntKind.bits] at this
      omega
theorem int_field {t : TypeId} {n : Nat} {v : Value} {k : IntKind} {y : DataW H × List MemPlace} (ht : P.underlying t = some (.int k)) (h : DataW.trod enc P w base spare held n t [v] = some y) : ∃ z, v = .int k z ∧ (Lit.int k z).wf = true := by
  obtain ⟨z, hz, _, hw⟩ := DataW.trod_int ht h
  injection hz with hz
  exact ⟨z, hz, hw⟩
end
end Go.Proofs.Ytloiadhdkgkjkaa
/- Arguments that read as lists of words. -/
namespace Go.Proofs.Ytloiadhdkgkjkaa
open Go.RowKit
theorem WordsIn.lies {w : World} {A : Option Addr} {l : List Int} {c : Nat} (h : WordsIn w A l c) : Lies w (.slice A l.length c) l := by
  refine ⟨A, c, rfl, h.cap, fun e => (h.nil e).2, fun j hj => ?_⟩
  cases A with
  | none => have := (h.nil rfl).1; subst this; simp at hj
  | some ad =>
    have h0 := h.cell ad rfl 0 (by omega)
    have hj' := h.cell ad rfl j hj
    have e0 := spotless h0
    have e1 : ad = ⟨ad.block, ad.off, none⟩ := by
      have : ad.add 0 = ad := by unfold Addr.add; rw [if_pos rfl]
      rw [this] at e0
      simpa using e0
    refine ⟨ad.block, ad.off, by rw [← e1], ?_⟩
    rw [e1, Addr.add_lit] at hj'
    exact hj'
end Go.Proofs.Ytloiadhdkgkjkaa
/- Histories that come in, opened. -/
namespace Go.Proofs.Ytloiadhdkgkjkaa
open Go.ChangeShapes Go.WideShapes Go.RowKit Go.Deep
set_option linter.unusedVariables false
theorem bool_field {P : Program} {H : Type} {enc : TypeId × Value → H} {w : World} {base : Nat} {spare : Nat → Bool} {held : Bool} {t : TypeId} {n : Nat} {v : Value} {y : DataW H × List MemPlace} (ht : P.underlying t = some .bool) (h : DataW.trod enc P w base spare held n t [v] = some y) : ∃ b, v = .bool b := by
  obtain ⟨b, hb, _⟩ := DataW.trod_bool ht h
  injection hb with hb
  exact ⟨b, hb⟩
theorem open_events {H : Type} {enc : TypeId × Value → H} {w : World} {base : Nat} {spare : Nat → Bool} {held : Bool} {ts : List TypeId} {ds : List (DataW H)} {j : Nat} {A : Option Addr} {len cap : Nat} {d : DataW H} {p : List MemPlace}
    (hsz : (DataW.weightsEach Try.prog ts ds).all (· ≤ reachBytes) = true) (hj : ts[j]? = some 23) (hd : ds[j]? = some d)
    (h : DataW.Trod enc Try.prog w base spare held 23 (.slice A len cap) d p) : ∃ l : List Ev, l.length = len ∧ LiesV w (.slice A len cap) l ∧ (∀ e ∈ l, EvWf e) ∧ len * 48 ≤ 140737488351232 := by
  have hlc : len ≤ cap := by
    obtain ⟨fuel, hf⟩ := h
    rcases open_slice_fields Try.underlying23 Try.underlying61 (by kernel_rfl) (by kernel_rfl) hf with ⟨hcs, hx⟩ | ⟨a, l, c, m, D, Pl, hcs, _, hl, _⟩
    · simp [Value.cells] at hcs
      omega
    · simp [Value.cells] at hcs
      obtain ⟨_, rfl, rfl⟩ := hcs
      exact hl
  obtain ⟨h1, h2, h3⟩ := open_fields hsz hj hd Try.underlying23 Try.underlying61 (by kernel_rfl) (by kernel_rfl) h
  have hb : Try.prog.bytesOf 61 = 48 := by kernel_rfl
  rw [hb] at h2
  cases A with
  | none =>
    obtain ⟨rfl, rfl⟩ := h1 rfl
    exact ⟨[], rfl, ⟨none, 0, rfl, Nat.le_refl _, fun _ => rfl, by simp, by simp, fun j hj => by simp at hj⟩, by simp, h2⟩
  | some ad =>
    have key : ∀ i, ∃ e : Ev, i < len → EvWf e ∧ ∀ c, c < 6 → w.cell? (ad.add (i * 6 + c)) = (encV e)[c]? := fun i => by
      by_cases hi : i < len
      · have q := h3 ad rfl i hi
        obtain ⟨v0, y0, n0, c0, t0, _⟩ := q 0 _ rfl
        obtain ⟨v1, y1, n1, c1, t1, _⟩ := q 1 _ rfl
        obtain ⟨v2, y2, n2, c2, t2, _⟩ := q 2 _ rfl
        obtain ⟨v3, y3, n3, c3, t3, _⟩ := q 3 _ rfl
        obtain ⟨v4, y4, n4, c4, t4, _⟩ := q 4 _ rfl
        obtain ⟨v5, y5, n5, c5, t5, _⟩ := q 5 _ rfl
        obtain ⟨z0, rfl, w0⟩ := int_field Try.underlying3 t0
        obtain ⟨z1, rfl, w1⟩ := int_field Try.underlying36 t1
        obtain ⟨z2, rfl, w2⟩ := int_field Try.underlying35 t2
        obtain ⟨z3, rfl, w3⟩ := int_field Try.underlying35 t3
        obtain ⟨z4, rfl⟩ := bool_field Try.underlying4 t4
        obtain ⟨z5, rfl, w5⟩ := int_field Try.underlying26 t5
        refine ⟨⟨z0, z1, z2, z3, z4, z5⟩, fun _ => ⟨⟨bd_i64 w0, bd_i64 w1, bd_u64 w2, bd_u64 w3, bd_i64 w5⟩, fun c hc => ?_⟩⟩
        have hcc : c = 0 ∨ c = 1 ∨ c = 2 ∨ c = 3 ∨ c = 4 ∨ c = 5 := by omega
        rcases hcc with rfl | rfl | rfl | rfl | rfl | rfl
        · exact c0
        · exact c1
        · exact c2
        · exact c3
        · exact c4
        · exact c5
      · exact ⟨Ev.zero, fun h => absurd h hi⟩
    obtain ⟨f, hf⟩ := Classical.axiomOfChoice key
    have hll : ((List.range len).map f).length = len := by simp
    have hwf : ∀ e ∈ (List.range len).map f, EvWf e := fun e he => by
      obtain ⟨i, hi, rfl⟩ := List.mem_map.1 he
      exact (hf i (List.mem_range.1 hi)).1
    refine ⟨(List.range len).map f, hll, ⟨some ad, cap, by rw [hll], by rw [hll]; exact hlc, (fun h => nomatch h), hwf, by rw [hll]; omega, fun j hj => ?_⟩, hwf, h2⟩
    have hj' : j < len := by rw [hll] at hj; exact hj
    have h0 := (hf 0 (by omega)).2 0 (by omega)
    have e0 := spotless (h0.trans rfl)
    have e1 : ad = ⟨ad.block, ad.off, none⟩ := by
      have : ad.add (0 * 6 + 0) = ad := by unfold Addr.add; rw [if_pos rfl]
      rw [this] at e0
      simpa using e0
    have hlt : ad.block < w.heap.size := by
      refine Nat.lt_of_not_le fun hh => ?_
      rw [e1, Addr.add_lit] at h0
      unfold World.cell? at h0
      rw [Array.getElem?_eq_none hh] at h0
      cases h0
    refine ⟨ad.block, ad.off, by rw [← e1], hlt, fun c hc => ?_⟩
    have := (hf j hj').2 c hc
    rw [e1, Addr.add_lit, ← Nat.add_assoc] at this
    rw [List.getElem_map, List.getElem_range]
    exact this
end Go.Proofs.Ytloiadhdkgkjkaa
/- opaque: Sights, Check, Behind by contract, over any cells and history in memory. -/
namespace Go.Proofs.Ytloiadhdkgkjkaa
open Go.RowKit
set_option maxHeartbeats 4000000
set_option linter.unusedVariables false
set_option linter.unusedSimpArgs false
theorem see_b {w : World} {Af A : Option Addr} {first : List Int} {l : List Ev} {cf cp : Nat} (hF : Lies w (.slice Af first.length cf) first) (hL : LiesV w (.slice A l.length cp) l) (hsz : l.length * 48 + 480 ≤ 140737488355328) (hfl : first.length ≤ 9223372036854775807) (hfb : ∀ x ∈ first, 0 ≤ x ∧ x ≤ 18446744073709551615) :
    Calls Try.prog 26 #[.slice Af first.length cf, .slice A l.length cp] w (SeeP w first l) := by
  by_cases hn : first.length = 0 ∨ 65536 < first.length
  · refine (see_len hn hfl).mono ?_
    rintro x w' ⟨hb, rfl⟩
    have h : seeOdd first.length l = (-1, 2) := by unfold seeOdd; rw [if_pos hn]
    exact ⟨hb, .inl ⟨by rw [h]; simp, by rw [h]⟩⟩
  · exact see_main hF hL hsz (by omega) (by omega) hfb
theorem sights_s {w : World} {Fv Hv : Value} {first : List Int} {l : List Ev} (h0 : OpIn w Fv Hv first l) : Calls Try.prog 8 #[Fv, Hv] w (SigP w (seeOdd first.length l) (sightsOf (vAll first l))) := by
  obtain ⟨hF, hL, hwf, hsz, hfl, hfb⟩ := h0
  obtain ⟨Af, cf, rfl, _⟩ := (show ∃ A cp, Fv = .slice A first.length cp ∧ True from by obtain ⟨A, cp, h1, _⟩ := hF; exact ⟨A, cp, h1, trivial⟩)
  obtain ⟨A, cp, rfl, _⟩ := hL.shape
  unfold vAll
  by_cases h : seeOdd first.length l = (-1, 0)
  · obtain ⟨-, -, hp, hf⟩ := seeOdd_ok h
    refine (sights_b (fun W hb => see_b (hF.below hb) (hL.below hb (Nat.le_refl _)) hsz hfl hfb) (fun _ => VJ.vn hwf hf (Nat.le_refl _)) hsz (fun _ hok => sights_bound hwf hok hp hf hsz)).mono ?_
    rintro x w' ⟨hb, ⟨h1, rfl⟩ | ⟨h1, hok, ov, rfl, hS, ho⟩⟩
    · exact ⟨hb, .inl ⟨h1, rfl⟩⟩
    · exact ⟨hb, .inr ⟨h1, ov, rfl, hS, ho⟩⟩
  · refine (sights_b (fun W hb => see_b (hF.below hb) (hL.below hb (Nat.le_refl _)) hsz hfl hfb) (fun e => absurd e h) hsz (fun e => absurd e h)).mono ?_
    rintro x w' ⟨hb, ⟨h1, rfl⟩ | ⟨h1, hok, ov, rfl, hS, ho⟩⟩
    · exact ⟨hb, .inl ⟨h1, rfl⟩⟩
    · exact absurd h1 h
theorem sights_c : SightsC := fun w Fv Hv first l h0 => sights_c' (sights_s h0)
theorem check_c : CheckC := fun w Fv Hv first l h0 => by
  refine (check_b (fun W hb => sights_s (h0.below hb)) ?_).mono ?_
  · unfold sightsOf
    rw [List.length_map]
    have h1 := vn_len first (rn l l.length).tries l l.length
    have h2 := h0.sz
    unfold vAll
    omega
  · rintro x w' ⟨rfl, hb⟩
    exact ⟨hb, rfl⟩
theorem behind_c : BehindC := fun w Fv Hv first l n h0 => by
  obtain ⟨hF, hL, hwf, hsz, hfl, hfb⟩ := h0
  obtain ⟨Af, cf, rfl, _⟩ := (show ∃ A cp, Fv = .slice A first.length cp ∧ True from by obtain ⟨A, cp, h1, _⟩ := hF; exact ⟨A, cp, h1, trivial⟩)
  obtain ⟨A, cp, rfl, _⟩ := hL.shape
  refine (behind_b n (fun W hb => see_b (hF.below hb) (hL.below hb (Nat.le_refl _)) hsz hfl hfb) (fun h => VJ.vn hwf (seeOdd_ok h).2.2.2 (Nat.le_refl _)) hsz).mono ?_
  rintro x w' ⟨hb, ⟨h1, rfl⟩ | ⟨h1, hok, ⟨h2, rfl⟩ | ⟨h2, h3, ov, rfl, hW, ho⟩⟩⟩
  · refine ⟨hb, _, ?_, ?_, fun q hq => absurd hq (no_own_nil q)⟩
    · unfold behA; rw [if_pos h1]
    · unfold behA; rw [if_pos h1]; exact Wl.nil _
  · have h4 : ¬ (seeOdd first.length l).2 ≠ 0 := by rw [h1]; simp
    refine ⟨hb, _, ?_, ?_, fun q hq => absurd hq (no_own_nil q)⟩
    · unfold behA vAll; rw [if_neg h4, if_pos h2]
    · unfold behA vAll; rw [if_neg h4, if_pos h2]; exact Wl.nil _
  · have h4 : ¬ (seeOdd first.length l).2 ≠ 0 := by rw [h1]; simp
    have h5 : ¬ (n < 0 ∨ ((vn first (rn l l.length).tries l l.length).commits : Int) < n) := by omega
    refine ⟨hb, ov, ?_, ?_, ho⟩
    · unfold behA vAll; rw [if_neg h4, if_neg h5]
    · unfold behA vAll; rw [if_neg h4, if_neg h5]; exact hW
end Go.Proofs.Ytloiadhdkgkjkaa
/- Plain law of chapter 16: the attempts that the look gathers are the document's. -/
namespace Go.Proofs.Ytloiadhdkgkjkaa
set_option maxHeartbeats 4000000
set_option linter.unusedVariables false
set_option linter.unusedSimpArgs false
/-- The places of the Begins below k. -/
def begs (l : List Ev) : Nat → List Nat
  | 0 => []
  | k + 1 => if (evAt l k).kd = 1 then begs l k ++ [k] else begs l k
theorem begs_lt (l : List Ev) : ∀ k, ∀ a ∈ begs l k, a < k
  | 0, a, h => by simp [begs] at h
  | k + 1, a, h => by
    have h : a ∈ (if (evAt l k).kd = 1 then begs l k ++ [k] else begs l k) := h
    split at h
    · rw [List.mem_append, List.mem_singleton] at h
      rcases h with h | h
      · have := begs_lt l k a h; omega
      · omega
    · have := begs_lt l k a h; omega
theorem trsF_begs (l : List Ev) : ∀ k, trsF l k = (begs l k).map (tryF l)
  | 0 => rfl
  | k + 1 => by
    show (if (evAt l k).kd = 1 then trsF l k ++ [tryF l k] else trsF l k) = (if (evAt l k).kd = 1 then begs l k ++ [k] else begs l k).map (tryF l)
    rw [trsF_begs l k]
    split
    · rw [List.map_append]; rfl
    · rfl
/-- An attempt as it stands ahead of event k. -/
def tryK (l : List Ev) (k a : Nat) : Tr := (tryS l a (k - (a + 1))).1
theorem tryS_succ (l : List Ev) (a n : Nat) : tryS l a (n + 1) = if (tryS l a n).2 = true ∨ (evAt l (a + 1 + n)).th ≠ (tryS l a n).1.th then tryS l a n else (updR (tryS l a n).1 (a + 1 + n) (evAt l (a + 1 + n)), endK (evAt l (a + 1 + n)).kd) := rfl
theorem endK_iff (k : Int) : endK k = true ↔ k = 6 ∨ k = 7 ∨ k = 8 ∨ k = 9 := by unfold endK; simp [or_assoc]
theorem tryS_how (l : List Ev) (a : Nat) : ∀ n, (tryS l a n).2 = true ↔ (tryS l a n).1.how ≠ 0
  | 0 => by simp [tryS]
  | n + 1 => by
    rw [tryS_succ]
    split
    · exact tryS_how l a n
    · rename_i h
      have h2 : ¬ (tryS l a n).2 = true := fun e => h (.inl e)
      have h3 := tryS_how l a n
      have h4 : (tryS l a n).1.how = 0 := by
        by_cases e : (tryS l a n).1.how = 0
        · exact e
        · exact absurd (h3.2 e) h2
      dsimp only
      unfold updR
      dsimp only
      by_cases he : endK (evAt l (a + 1 + n)).kd = true
      · rw [if_pos he]
        refine ⟨fun _ => ?_, fun _ => he⟩
        rcases (endK_iff _).1 he with e | e | e | e <;> rw [e] <;> decide
      · rw [if_neg he]
        exact ⟨fun e => absurd e he, fun e => absurd h4 e⟩
theorem tryS_fix (l : List Ev) (a : Nat) : ∀ n, (tryS l a n).1.th = (evAt l a).th ∧ (tryS l a n).1.first = a
  | 0 => ⟨rfl, rfl⟩
  | n + 1 => by
    have h := tryS_fix l a n
    rw [tryS_succ]
    split
    · exact h
    · exact h
theorem tryK_succ {l : List Ev} {k a : Nat} (h : a < k) : tryK l (k + 1) a = if (tryK l k a).how ≠ 0 ∨ (evAt l k).th ≠ (tryK l k a).th then tryK l k a else updR (tryK l k a) k (evAt l k) := by
  unfold tryK
  obtain ⟨n, rfl⟩ : ∃ n, k = a + 1 + n := ⟨k - (a + 1), by omega⟩
  rw [show a + 1 + n + 1 - (a + 1) = n + 1 by omega, show a + 1 + n - (a + 1) = n by omega, tryS_succ]
  by_cases hc : (tryS l a n).2 = true ∨ (evAt l (a + 1 + n)).th ≠ (tryS l a n).1.th
  · rw [if_pos hc, if_pos (hc.imp (tryS_how l a n).1 id)]
  · rw [if_neg hc, if_neg (fun h => hc (h.imp (tryS_how l a n).2 id))]
theorem tryK_new (l : List Ev) (k : Nat) : tryK l (k + 1) k = ⟨(evAt l k).th, k, k, (evAt l k).wd, 0, 0, 0⟩ := by
  unfold tryK
  rw [Nat.sub_self]
  rfl
theorem updR_updT (x : Tr) (k : Nat) (e : Ev) (h : e.kd ≠ 1) : updT x k e = updR x k e := by
  unfold updT updR
  have e1 : (endK e.kd = true) = (e.kd = 6 ∨ e.kd = 7 ∨ e.kd = 8 ∨ e.kd = 9) := propext (endK_iff _)
  simp only [e1, h, false_or]
theorem get_modify_ne {α : Type} {l : List α} {i j : Nat} {f : α → α} (h : i ≠ j) : (l.modify i f)[j]? = l[j]? := by
  rw [List.getElem?_modify]
  cases l[j]? with
  | none => rfl
  | some x => show some (if i = j then f x else x) = some x; rw [if_neg h]
theorem get_modify_eq {α : Type} {l : List α} {i : Nat} {f : α → α} : (l.modify i f)[i]? = l[i]?.map f := by
  rw [List.getElem?_modify]
  cases l[i]? with
  | none => rfl
  | some x => show some (if i = i then f x else x) = some (f x); rw [if_pos rfl]
/-- The look's attempts are the document's, as they stand. -/
theorem rn_tries {l : List Ev} (hwf : ∀ e ∈ l, EvWf e) (hok : okTo l l.length) : ∀ k, k ≤ l.length → (rn l k).tries = (begs l k).map (tryK l k)
  | 0, _ => rfl
  | k + 1, hk => by
    have ih := rn_tries hwf hok k (by omega)
    have hI := inv_rn hwf (show k ≤ l.length by omega) (fun j hj => hok j (by omega))
    have hw := hok k (by omega)
    obtain ⟨hfm, htb, h9, -, -, -⟩ := wrong_zero hw
    obtain ⟨⟨h0, h8⟩, k1, k12⟩ := fmd_bd hfm
    show (take (rn l k) k (evAt l k)).tries = (if (evAt l k).kd = 1 then begs l k ++ [k] else begs l k).map (tryK l (k + 1))
    have hnew := tryK_new l k
    have hsucc : ∀ a ∈ begs l k, tryK l (k + 1) a = if (tryK l k a).how ≠ 0 ∨ (evAt l k).th ≠ (tryK l k a).th then tryK l k a else updR (tryK l k a) k (evAt l k) := fun a ha => tryK_succ (begs_lt l k a ha)
    generalize evAt l k = e at *
    obtain ⟨th, kd, ad, wd, ow, er⟩ := e
    dsimp only at *
    obtain ⟨t, rfl⟩ := Int.eq_ofNat_of_zero_le h0
    have ht : t < 8 := by omega
    rw [Int.toNat_natCast] at htb h9
    generalize rn l k = s at *
    have hlen : s.tries.length = (begs l k).length := by rw [ih, List.length_map]
    -- the attempts that are not over belong to live threads
    have hcl : ∀ q a, (begs l k)[q]? = some a → (tryK l k a).how = 0 → ∃ t' : Nat, t' < 8 ∧ (tryK l k a).th = (t' : Int) ∧ liveT (s.th t') ∧ (s.th t').tr = q := fun q a hq h => by
      have hx : s.tries[q]? = some (tryK l k a) := by rw [ih, List.getElem?_map, hq]; rfl
      obtain ⟨t', h1, h2, h3⟩ := hI.cl q _ hx
      exact ⟨t', h1, h2, (h3 h).1, (h3 h).2⟩
    unfold take
    dsimp only
    rw [Int.toNat_natCast]
    by_cases c1 : kd = 1
    · subst c1
      have hh : (s.th t).how = 0 := by
        have := hI.bd.how t
        unfold tb at htb
        by_cases e0 : (s.th t).how = 0
        · exact e0
        · simp [e0] at htb
      rw [if_pos (.inr rfl), if_pos rfl, if_pos rfl]
      have htr : (tkT (s.th t) ⟨t, 1, ad, wd, ow, er⟩ s.tries.length).tr = s.tries.length := by simp [tkT]
      rw [htr, List.map_append]
      apply List.ext_getElem?
      intro q
      by_cases hq : q < s.tries.length
      · rw [get_modify_ne (by omega), List.getElem?_append_left hq, List.getElem?_append_left (by rw [List.length_map]; omega), List.getElem?_map, ih, List.getElem?_map]
        obtain ⟨a, ha⟩ : ∃ a, (begs l k)[q]? = some a := ⟨_, List.getElem?_eq_getElem (by omega)⟩
        rw [ha]
        have hs := hsucc a (List.mem_of_getElem? ha)
        simp only [Option.map_some]
        rw [hs, if_pos]
        by_cases e0 : (tryK l k a).how = 0
        · obtain ⟨t', h1, h2, h3, -⟩ := hcl q a ha e0
          refine .inr fun h => ?_
          have : t' = t := by omega
          subst this
          rcases h3 with h3 | h3 <;> omega
        · exact .inl e0
      · by_cases hq2 : q = s.tries.length
        · subst hq2
          rw [get_modify_eq, List.getElem?_append_right (Nat.le_refl _), Nat.sub_self, List.getElem?_append_right (by rw [List.length_map]; omega), List.length_map, hlen, Nat.sub_self]
          simp only [List.getElem?_cons_zero, Option.map_some, List.map_cons]
          rw [hnew]
          simp [updT, Tr.new]
        · rw [get_modify_ne (by omega), List.getElem?_eq_none (by rw [List.length_append, List.length_singleton]; omega), List.getElem?_eq_none (by rw [List.length_append, List.length_map, List.map_cons, List.length_cons]; simp; omega)]
    · rw [if_neg c1, if_neg c1]
      have hne1 : (⟨t, kd, ad, wd, ow, er⟩ : Ev).kd ≠ 1 := c1
      by_cases hl : (s.th t).how = 0
      · rw [if_neg (by simp [hl, c1])]
        rw [ih]
        apply List.map_congr_left
        intro a ha
        rw [hsucc a ha, if_pos]
        by_cases e0 : (tryK l k a).how = 0
        · obtain ⟨q, hq, rfl⟩ := List.getElem_of_mem ha
          obtain ⟨t', h1, h2, h3, -⟩ := hcl q _ (List.getElem?_eq_getElem hq) e0
          refine .inr fun h => ?_
          have : t' = t := by omega
          subst this
          rcases h3 with h3 | h3 <;> omega
        · exact .inl e0
      · rw [if_pos (.inl hl)]
        have htr : (tkT (s.th t) ⟨t, kd, ad, wd, ow, er⟩ s.tries.length).tr = (s.th t).tr := by simp [tkT, c1]
        rw [htr]
        have hlive : liveT (s.th t) := by
          have := hI.bd.how t
          unfold tb at htb
          unfold liveT
          by_cases e1 : (s.th t).how = 1
          · exact .inl e1
          · by_cases e2 : (s.th t).how = 2
            · exact .inr e2
            · exfalso; apply htb; rw [if_neg hl, if_neg e1, if_neg e2]
        obtain ⟨x, hx1, hx2, hx3⟩ := hI.op t ht hlive
        apply List.ext_getElem?
        intro q
        rw [List.getElem?_map]
        by_cases hq : q < s.tries.length
        · obtain ⟨a, ha⟩ : ∃ a, (begs l k)[q]? = some a := ⟨_, List.getElem?_eq_getElem (by omega)⟩
          have hxa : s.tries[q]? = some (tryK l k a) := by rw [ih, List.getElem?_map, ha]; rfl
          rw [ha]
          have hs := hsucc a (List.mem_of_getElem? ha)
          by_cases hqt : (s.th t).tr = q
          · subst hqt
            rw [hx1] at hxa
            obtain rfl : x = tryK l k a := by simpa using hxa
            rw [get_modify_eq, hx1]
            simp only [Option.map_some]
            rw [hs, if_neg (by rw [hx2, hx3]; simp), updR_updT _ _ _ hne1]
          · rw [get_modify_ne hqt, hxa]
            simp only [Option.map_some]
            rw [hs, if_pos]
            by_cases e0 : (tryK l k a).how = 0
            · obtain ⟨t', h1, h2, h3, h4⟩ := hcl q a ha e0
              refine .inr fun h => ?_
              have : t' = t := by omega
              subst this
              exact hqt h4
            · exact .inl e0
        · rw [List.getElem?_eq_none (by rw [List.length_modify]; omega), List.getElem?_eq_none (by omega)]
          rfl
theorem rn_trsF {l : List Ev} (hwf : ∀ e ∈ l, EvWf e) (hok : okTo l l.length) : (rn l l.length).tries = trsF l l.length := by
  rw [rn_tries hwf hok _ (Nat.le_refl _), trsF_begs]
  rfl
end Go.Proofs.Ytloiadhdkgkjkaa
/- Plain law of chapter 16: the cells that see gathers are the document's. -/
namespace Go.Proofs.Ytloiadhdkgkjkaa
set_option maxHeartbeats 4000000
set_option linter.unusedVariables false
set_option linter.unusedSimpArgs false
theorem dn_le (l : List (Nat × Int)) (n : Nat) : ∀ i, dn l n i ≤ i
  | 0 => Nat.le_refl _
  | i + 1 => by
    unfold dn
    have := dn_le l n i
    split <;> omega
theorem dn_congr {l l' : List (Nat × Int)} (n : Nat) : ∀ i, (∀ j, j ≤ i → l.getD j (0, 0) = l'.getD j (0, 0)) → dn l n i = dn l' n i
  | 0, _ => rfl
  | i + 1, h => by
    unfold dn
    rw [h (i + 1) (Nat.le_refl _), dn_congr n i (fun j hj => h j (by omega))]
theorem atW_snoc {l : List (Nat × Int)} (hl : l ≠ []) (p : Nat × Int) (n : Nat) : atW (l ++ [p]) n = if p.1 ≤ n then p.2 else atW l n := by
  obtain ⟨i, hi⟩ : ∃ i, l.length = i + 1 := ⟨l.length - 1, by have := List.length_pos_iff.2 hl; omega⟩
  unfold atW
  rw [List.length_append, List.length_singleton, Nat.add_sub_cancel, hi, Nat.add_sub_cancel]
  have hg : (l ++ [p]).getD (i + 1) (0, 0) = p := by rw [List.getD_eq_getElem?_getD, List.getElem?_append_right (by omega), hi]; simp
  have hgl : ∀ j, j ≤ i → (l ++ [p]).getD j (0, 0) = l.getD j (0, 0) := fun j hj => by rw [List.getD_eq_getElem?_getD, List.getElem?_append_left (by omega), ← List.getD_eq_getElem?_getD]
  show ((l ++ [p]).getD (if n < ((l ++ [p]).getD (i + 1) (0, 0)).1 then dn (l ++ [p]) n i else i + 1) (0, 0)).2 = _
  rw [hg]
  by_cases h : p.1 ≤ n
  · rw [if_neg (by omega), if_pos h, hg]
  · rw [if_pos (by omega), if_neg h, dn_congr n i hgl, hgl _ (dn_le l n i)]
theorem atW_one (p : Nat × Int) (n : Nat) : atW [p] n = p.2 := rfl
/-- A cell's list: not empty, from nought on, none behind m commits. -/
structure Lm (l : List (Nat × Int)) (m : Nat) : Prop where
  ne : l ≠ []
  z : (l.getD 0 (0, 0)).1 = 0
  le : ∀ p ∈ l, p.1 ≤ m
theorem cutL_cases (l : List (Nat × Int)) (m : Nat) (hl : l ≠ []) : (cutL l m = l ∧ ∀ x, l.getLast hl = x → x.1 ≠ m) ∨ (∃ p, l = cutL l m ++ [p] ∧ p.1 = m) := by
  unfold cutL
  rw [List.getLast?_eq_some_getLast hl]
  by_cases h : (l.getLast hl).1 = m
  · rw [if_pos (by simp [h])]
    exact .inr ⟨l.getLast hl, (List.dropLast_concat_getLast hl).symm, h⟩
  · rw [if_neg (by simp [h])]
    exact .inl ⟨rfl, fun x hx => by rw [← hx]; exact h⟩
theorem put_at {l : List (Nat × Int)} {m : Nat} (h : Lm l m) (hm : 0 < m) (x : Int) (n : Nat) : atW (cutL l m ++ [(m, x)]) n = if m ≤ n then x else atW l n := by
  rcases cutL_cases l m h.ne with ⟨e, _⟩ | ⟨p, e, hp⟩
  · rw [e, atW_snoc h.ne]
  · have hne : cutL l m ≠ [] := fun h0 => by
      rw [h0] at e
      have hz := h.z
      rw [e] at hz
      simp at hz
      omega
    rw [atW_snoc hne]
    by_cases hn : m ≤ n
    · rw [if_pos hn, if_pos hn]
    · rw [if_neg hn, if_neg hn]
      have := atW_snoc hne p n
      rw [← e, if_neg (by omega)] at this
      exact this.symm
theorem put_Lm {l : List (Nat × Int)} {m : Nat} (h : Lm l m) (hm : 0 < m) (x : Int) : Lm (cutL l m ++ [(m, x)]) m where
  ne := put_ne l m x
  z := head_put x h.ne h.z hm
  le := fun p hp => by
    rw [List.mem_append, List.mem_singleton] at hp
    rcases hp with hp | hp
    · rcases cutL_cases l m h.ne with ⟨e, _⟩ | ⟨q, e, _⟩
      · rw [e] at hp; exact h.le p hp
      · exact h.le p (by rw [e]; exact List.mem_append_left _ hp)
    · rw [hp]; exact Nat.le_refl _
/-- Writes laid into cells, one behind the other. -/
def apW (now : List Int) (ws : List (Int × Int)) : List Int := ws.foldl (fun c p => c.set p.1.toNat p.2) now
theorem putAll_at {m size : Nat} (hm : 0 < m) : ∀ {ws : List (Int × Int)} {c : Nat → List (Nat × Int)} {now : List Int}, now.length = size → (∀ p ∈ ws, 0 ≤ p.1 ∧ p.1 < (size : Int)) → (∀ a, a < size → Lm (c a) m) → (∀ a, a < size → atW (c a) m = now.getD a 0) →
    (∀ a, a < size → Lm (putAll c m ws a) m) ∧ (∀ a, a < size → atW (putAll c m ws a) m = (apW now ws).getD a 0) ∧ ∀ a, a < size → ∀ n, n < m → atW (putAll c m ws a) n = atW (c a) n
  | [], c, now, _, _, h2, h3 => ⟨h2, h3, fun _ _ _ _ => rfl⟩
  | p :: ws, c, now, h0, h1, h2, h3 => by
    obtain ⟨hp0, hp1⟩ := h1 p (List.mem_cons_self ..)
    have hput : ∀ a, putC c m p a = if a = p.1.toNat then cutL (c a) m ++ [(m, p.2)] else c a := fun a => rfl
    have ih := putAll_at hm (ws := ws) (c := putC c m p) (now := now.set p.1.toNat p.2) (by rw [List.length_set]; exact h0) (fun q hq => h1 q (List.mem_cons_of_mem _ hq))
      (fun a ha => by
        rw [hput]
        split
        · exact put_Lm (h2 a ha) hm _
        · exact h2 a ha)
      (fun a ha => by
        rw [hput, List.getD_eq_getElem?_getD, List.getElem?_set]
        by_cases e : a = p.1.toNat
        · rw [if_pos e, if_pos e.symm, put_at (h2 a ha) hm, if_pos (Nat.le_refl _), if_pos (by omega)]; rfl
        · rw [if_neg e, if_neg (fun h => e h.symm), ← List.getD_eq_getElem?_getD]; exact h3 a ha)
    refine ⟨ih.1, ih.2.1, fun a ha n hn => ?_⟩
    show atW (putAll (putC c m p) m ws a) n = _
    rw [ih.2.2 a ha n hn, hput]
    split
    · rw [put_at (h2 a ha) hm, if_neg (by omega)]
    · rfl
/-- The Writes of a thread in n events from a place on. -/
def wsF (l : List Ev) (th : Int) (b : Nat) : Nat → List (Int × Int)
  | 0 => []
  | n + 1 => if (evAt l (b + n)).th = th ∧ (evAt l (b + n)).kd = 3 then wsF l th b n ++ [((evAt l (b + n)).ad, (evAt l (b + n)).wd)] else wsF l th b n
theorem apF_apW (l : List Ev) (th : Int) (b : Nat) (now : List Int) : ∀ n, apF l th b now n = apW now (wsF l th b n)
  | 0 => rfl
  | n + 1 => by
    have ih := apF_apW l th b now n
    unfold apF wsF
    split
    · rw [ih]; unfold apW; rw [List.foldl_append]; rfl
    · exact ih
theorem stS_pre (first : List Int) (l : List Ev) (W : List Nat) (x : Nat) : ∀ j, j ≤ W.length → stS first l (W ++ [x]) j = stS first l W j
  | 0, _ => rfl
  | j + 1, hj => by
    have ih := stS_pre first l W x j (by omega)
    have hg : (W ++ [x]).getD j 0 = W.getD j 0 := by rw [List.getD_eq_getElem?_getD, List.getElem?_append_left (by omega), ← List.getD_eq_getElem?_getD]
    unfold stS
    rw [ih, hg]
end Go.Proofs.Ytloiadhdkgkjkaa
