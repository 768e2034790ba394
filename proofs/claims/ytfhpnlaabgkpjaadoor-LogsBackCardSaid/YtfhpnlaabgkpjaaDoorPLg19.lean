/- LogsBack: the law's walk. -/
import Derived.Deep.DeepCutAuto
import Derived.ProofKit
import Derived.LaidMore
import Derived.OpenShut
import Derived.Stop.Joined
import Derived.Test.YtfhpnlaabgkpjaaDoorTie
import Derived.Test.YtfhpnlaabgkpjaaDoorCards
import Derived.Test.YtfhpnlaabgkpjaaDoorPLg15
import Derived.Test.YtfhpnlaabgkpjaaDoorPLg18
namespace Go.Proofs.YtfhpnlaabgkpjaaDoor
open Go.RowKit Go.Shelf
set_option maxHeartbeats 16000000
set_option linter.unusedVariables false
set_option linter.unusedSimpArgs false

def CellsAt (W : World) (A : Option Addr) (l : List (Int × Int)) : Prop := ∀ i (hi : i < l.length), ∃ ad, A = some ad ∧ W.cell? (ad.add (i * 2)) = some (.int .u64 (l[i]'hi).1) ∧ W.cell? ⟨(ad.add (i * 2)).block, (ad.add (i * 2)).off + 1, none⟩ = some (.int .u64 (l[i]'hi).2)
theorem take_snoc_ {l : List (Int × Int)} {i : Nat} (hi : i < l.length) : l.take (i + 1) = l.take i ++ [((l[i]'hi).1, (l[i]'hi).2)] := by
  rw [List.take_add_one, List.getElem?_eq_getElem hi]
  rfl
set_option maxRecDepth 100000 in
theorem logsBack_long {w : World} {A B : Option Addr} {na nb ca cb : Nat} {v : Value} (hT : Tab w) (hna : (na : Int) ≤ 9223372036854775807) (hnb : (nb : Int) ≤ 9223372036854775807) (hl : 1000 < na ∨ 1000 < nb) :
    Calls Tryd.prog 4 #[.slice A na ca, .slice B nb cb, v] w fun e w' => e = .returned (.bool true) ∧ Fr (fun _ => False) w (fun _ => False) w' := by
  have hcase : decide ((na : Int) > 1000) = true ∨ (decide ((na : Int) > 1000) = false ∧ decide ((nb : Int) > 1000) = true) := by
    by_cases h : 1000 < na
    · exact .inl (decide_eq_true (by omega))
    · exact .inr ⟨decide_eq_false (by omega), decide_eq_true (by omega)⟩
  replace hT := Lib.hid hT
  clear hl
  go_enter Tryd.func4, Tryd.ntmps4
  go_wp2_with fail
  refine (newRedo_b (most := 1000000) (by decide)).mono ?_
  rintro _ w1 ⟨r0, F0, rfl, h0, f0⟩
  replace h0 := Lib.hid h0
  replace f0 := Lib.hid f0
  go_wp2_with fail
  refine (newRedo_b (most := 1000000) (by decide)).mono ?_
  rintro _ w2 ⟨r1, F1, rfl, h1, f1⟩
  replace h1 := Lib.hid h1
  replace f1 := Lib.hid f1
  go_wp2_with fail
  refine (newRedo_b (most := 1000000) (by decide)).mono ?_
  rintro _ w3 ⟨r2, F2, rfl, h2, f2⟩
  have HL := Lib.hid (TL.start hT.out h0.out f0.out h1.out f1.out h2 f2)
  have W3 := Lib.hid (works_b HL.out.tabr)
  have F3 := Lib.hid HL.out.fr
  clear h0 f0 h1 f1 h2 f2 HL
  rcases hcase with hd | ⟨hd, hd2⟩
  all_goals
    go_wp2_with fail
    refine W3.out.mono ?_
    rintro _ w4 ⟨rfl, f4⟩
    replace f4 := Lib.hid f4
    go_wp2
    go_ret
    exact ⟨rfl, F3.out.trans f4.out⟩
set_option maxRecDepth 100000 in
theorem logsBack_short {w : World} {A B : Option Addr} {la lb : List (Int × Int)} {ca cb : Nat} {v : Value} {cs : List Int} (hT : Tab w) (hla : la.length ≤ 1000) (hlb : lb.length ≤ 1000) (ha : CellsAt w A la) (hb : CellsAt w B lb)
    (hna : ∀ x ∈ la, 0 ≤ x.1 ∧ x.1 ≤ 18446744073709551615) (hnb : ∀ x ∈ lb, 0 ≤ x.1 ∧ x.1 ≤ 18446744073709551615) (hv : Lies w v cs) (hc : cs.length * 8 ≤ 140737488355328) :
    Calls Tryd.prog 4 #[.slice A la.length ca, .slice B lb.length cb, v] w fun e w' => e = .returned (.bool true) ∧ Fr (fun _ => False) w (fun _ => False) w' := by
  have hmx : Tryd.prog.follows .mixedOrders = true := by kernel_rfl
  have hai : (la.length : Int) ≤ 1000 := by omega
  have hbi : (lb.length : Int) ≤ 1000 := by omega
  have hd1 : decide ((la.length : Int) > 1000) = false := decide_eq_false (by omega)
  have hd2 : decide ((lb.length : Int) > 1000) = false := decide_eq_false (by omega)
  replace hT := Lib.hid hT
  replace ha := Lib.hid ha
  replace hb := Lib.hid hb
  replace hna := Lib.hid hna
  replace hnb := Lib.hid hnb
  replace hv := Lib.hid hv
  replace hc := Lib.hid hc
  go_enter Tryd.func4, Tryd.ntmps4
  go_wp2_with fail
  refine (newRedo_b (most := 1000000) (by decide)).mono ?_
  rintro _ w1 ⟨r0, F0, rfl, h0, f0⟩
  replace h0 := Lib.hid h0
  replace f0 := Lib.hid f0
  go_wp2_with fail
  refine (newRedo_b (most := 1000000) (by decide)).mono ?_
  rintro _ w2 ⟨r1, F1, rfl, h1, f1⟩
  replace h1 := Lib.hid h1
  replace f1 := Lib.hid f1
  go_wp2_with fail
  refine (newRedo_b (most := 1000000) (by decide)).mono ?_
  rintro _ w3 ⟨r2, F2, rfl, h2, f2⟩
  have HL := Lib.hid (TL.start hT.out h0.out f0.out h1.out f1.out h2 f2)
  clear h0 f0 h1 f1 h2 f2 hT
  go_wp2
  go_loopw [13] (fun iv wr => ∃ (i : Nat) (X : Nat → Nat → Prop), i ≤ la.length ∧ iv = .int .i64 i ∧ Hid (TL w wr (L3 0 r0 r1 r2) X (L3 [] (la.take i) (la.take i) []))) (fun iv _ => la.length - (intOf iv).toNat)
  case atStart => exact ⟨0, _, by omega, rfl, HL⟩
  case round =>
    clear HL
    obtain ⟨i, X, hi, rfl, HL⟩ := hrel
    by_cases hil : i < la.length
    · obtain ⟨ad, rfl, b0, b1⟩ := ha.out i hil
      have a0 := HL.out.fr.keep_cell b0
      have a1 := HL.out.fr.keep_cell b1
      have hba := hna.out _ (List.getElem_mem hil)
      have htk := Lib.hid (take_snoc_ hil)
      have hii : (i : Int) < (la.length : Int) := by omega
      generalize (la[i]'hil).1 = a at *
      generalize (la[i]'hil).2 = x at *
      have hlt : (la.take i).length < 2000 := by rw [List.length_take]; omega
      have C1 := Lib.hid (fun k => (HL.out.drewN k).put (j := 0) (a := a) (x := x) (by decide) hlt hba)
      replace hba := Lib.hid hba
      replace hlt := Lib.hid hlt
      clear HL
      go_wp2_with fail
      refine wp_region_mixH (fun _ => True) [3, 3, 3, 3, 3, 1, 3, 3, 3, 3, 1, 2] (List.range 12) (by kernel_rfl) (by kernel_rfl) (fun _ _ h => h) trivial ?_
      repeat ((first | refine wpMixH_pure rfl rfl (fun K hK => ?_) | refine wpMixH_loc rfl rfl (fun K hK => ?_) | refine wpMixH_any rfl rfl (fun K hK => ?_)); go_simp; refine hK _ _ ?_; clear hK K)
      refine wpMixH_loud rfl rfl (fun m1 K hK => ?_)
      go_wp2_with fail
      refine (C1.out _).mono ?_
      rintro _ w4 ⟨rfl, X4, H4⟩
      rw [L3_0] at H4
      have H4 : Hid (TL w w4 (L3 0 r0 r1 r2) X4 (L3 [] (la.take (i + 1)) (la.take i) [])) := Lib.hid (by rw [htk.out]; exact H4)
      clear C1 a0 a1
      go_wp2_with fail
      refine hK _ _ (fun h => (Bool.false_ne_true ((Eq.symm (by kernel_rfl)).trans h)).elim) ?_; clear hK K
      refine wpMixH_nil (fun m2 => ?_)
      have H5 := Lib.hid (H4.out.drewN m2)
      clear H4
      generalize w4.drewN m2 = w5 at *
      have a0 := H5.out.fr.keep_cell b0
      have a1 := H5.out.fr.keep_cell b1
      have C2 := Lib.hid (fun k => (H5.out.drewN k).put (j := 1) (a := a) (x := x) (by decide) hlt.out hba.out)
      clear H5
      go_wp2_with fail
      refine wp_region_mixH (fun _ => True) [3, 3, 3, 3, 3, 1, 3, 3, 3, 3, 1, 2] (List.range 12) (by kernel_rfl) (by kernel_rfl) (fun _ _ h => h) trivial ?_
      repeat ((first | refine wpMixH_pure rfl rfl (fun K hK => ?_) | refine wpMixH_loc rfl rfl (fun K hK => ?_) | refine wpMixH_any rfl rfl (fun K hK => ?_)); go_simp; refine hK _ _ ?_; clear hK K)
      refine wpMixH_loud rfl rfl (fun m3 K hK => ?_)
      go_wp2_with fail
      refine (C2.out _).mono ?_
      rintro _ w6 ⟨rfl, X6, H6⟩
      rw [L3_1] at H6
      have H6 : Hid (TL w w6 (L3 0 r0 r1 r2) X6 (L3 [] (la.take (i + 1)) (la.take (i + 1)) [])) := Lib.hid (by
        have e := htk.out
        have H6 : TL w w6 (L3 0 r0 r1 r2) X6 (L3 [] (la.take (i + 1)) (la.take i ++ [(a, x)]) []) := H6
        rwa [← e] at H6)
      clear C2 a0 a1 b0 b1
      go_wp2_with fail
      refine hK _ _ (fun h => (Bool.false_ne_true ((Eq.symm (by kernel_rfl)).trans h)).elim) ?_; clear hK K
      refine wpMixH_nil (fun m4 => ?_)
      go_wp2
      go_roundw
      case rel => exact ⟨i + 1, _, by omega, by simp, Lib.hid (H6.out.drewN m4)⟩
      case measure => simp [intOf]; omega
    · obtain rfl : i = la.length := by omega
      rw [List.take_length] at HL
      have M1 := Lib.hid (HL.out.mark (j := 0) (by decide))
      simp only [L3_z0] at M1
      clear hi hil
      go_wp2_with fail
      refine M1.out.mono ?_
      rintro _ _ ⟨rfl, rfl⟩
      clear M1
      go_wp2
      go_loopw [15] (fun iv wr => ∃ (i : Nat) (X : Nat → Nat → Prop), i ≤ lb.length ∧ iv = .int .i64 i ∧ Hid (TL w wr (L3 0 r0 r1 r2) X (L3 [] (la ++ lb.take i) la (lb.take i)))) (fun iv _ => lb.length - (intOf iv).toNat)
      case atStart => exact ⟨0, X, by omega, rfl, by rw [List.take_zero, List.append_nil]; exact HL⟩
      case round =>
        clear HL
        obtain ⟨i, X, hi, rfl, HL⟩ := hrel
        by_cases hil : i < lb.length
        · obtain ⟨ad, rfl, b0, b1⟩ := hb.out i hil
          have a0 := HL.out.fr.keep_cell b0
          have a1 := HL.out.fr.keep_cell b1
          have hba := hnb.out _ (List.getElem_mem hil)
          have htk := Lib.hid (take_snoc_ hil)
          have hii : (i : Int) < (lb.length : Int) := by omega
          generalize (lb[i]'hil).1 = a at *
          generalize (lb[i]'hil).2 = x at *
          have hlt : (la ++ lb.take i).length < 2000 := by rw [List.length_append, List.length_take]; omega
          have C1 := Lib.hid (fun k => (HL.out.drewN k).put (j := 0) (a := a) (x := x) (by decide) hlt hba)
          replace hba := Lib.hid hba
          have hlt : (lb.take i).length < 2000 := by rw [List.length_take]; omega
          replace hlt := Lib.hid hlt
          clear HL
          go_wp2_with fail
          refine wp_region_mixH (fun _ => True) [3, 3, 3, 3, 3, 1, 3, 3, 3, 3, 1, 2] (List.range 12) (by kernel_rfl) (by kernel_rfl) (fun _ _ h => h) trivial ?_
          repeat ((first | refine wpMixH_pure rfl rfl (fun K hK => ?_) | refine wpMixH_loc rfl rfl (fun K hK => ?_) | refine wpMixH_any rfl rfl (fun K hK => ?_)); go_simp; refine hK _ _ ?_; clear hK K)
          refine wpMixH_loud rfl rfl (fun m1 K hK => ?_)
          go_wp2_with fail
          refine (C1.out _).mono ?_
          rintro _ w4 ⟨rfl, X4, H4⟩
          rw [L3_0] at H4
          have H4 : Hid (TL w w4 (L3 0 r0 r1 r2) X4 (L3 [] (la ++ lb.take (i + 1)) la (lb.take i))) := Lib.hid (by rw [htk.out, ← List.append_assoc]; exact H4)
          clear C1 a0 a1
          go_wp2_with fail
          refine hK _ _ (fun h => (Bool.false_ne_true ((Eq.symm (by kernel_rfl)).trans h)).elim) ?_; clear hK K
          refine wpMixH_nil (fun m2 => ?_)
          have H5 := Lib.hid (H4.out.drewN m2)
          clear H4
          generalize w4.drewN m2 = w5 at *
          have a0 := H5.out.fr.keep_cell b0
          have a1 := H5.out.fr.keep_cell b1
          have C2 := Lib.hid (fun k => (H5.out.drewN k).put (j := 2) (a := a) (x := x) (by decide) hlt.out hba.out)
          clear H5
          go_wp2_with fail
          refine wp_region_mixH (fun _ => True) [3, 3, 3, 3, 3, 1, 3, 3, 3, 3, 1, 2] (List.range 12) (by kernel_rfl) (by kernel_rfl) (fun _ _ h => h) trivial ?_
          repeat ((first | refine wpMixH_pure rfl rfl (fun K hK => ?_) | refine wpMixH_loc rfl rfl (fun K hK => ?_) | refine wpMixH_any rfl rfl (fun K hK => ?_)); go_simp; refine hK _ _ ?_; clear hK K)
          refine wpMixH_loud rfl rfl (fun m3 K hK => ?_)
          go_wp2_with fail
          refine (C2.out _).mono ?_
          rintro _ w6 ⟨rfl, X6, H6⟩
          rw [L3_2] at H6
          have H6 : Hid (TL w w6 (L3 0 r0 r1 r2) X6 (L3 [] (la ++ lb.take (i + 1)) la (lb.take (i + 1)))) := Lib.hid (by
            have e := htk.out
            have H6 : TL w w6 (L3 0 r0 r1 r2) X6 (L3 [] (la ++ lb.take (i + 1)) la (lb.take i ++ [(a, x)])) := H6
            rwa [← e] at H6)
          clear C2 a0 a1 b0 b1
          go_wp2_with fail
          refine hK _ _ (fun h => (Bool.false_ne_true ((Eq.symm (by kernel_rfl)).trans h)).elim) ?_; clear hK K
          refine wpMixH_nil (fun m4 => ?_)
          go_wp2
          go_roundw
          case rel => exact ⟨i + 1, _, by omega, by simp, Lib.hid (H6.out.drewN m4)⟩
          case measure => simp [intOf]; omega
        · obtain rfl : i = lb.length := by omega
          rw [List.take_length] at HL
          have v1 := Lib.hid (hv.out.frz HL.out.fr)
          have O1 := Lib.hid (HL.out.over (j := 1) (by decide) v1.out hc.out)
          have hcs := codes_cases (cs := cs) hna.out hnb.out
          simp only [L3_z1] at O1
          clear hi hil HL v1
          go_wp2_with fail
          refine O1.out.mono ?_
          rintro _ w7 ⟨u1, rfl, q1, H7, g7⟩
          have O2 := Lib.hid (H7.over (j := 2) (by decide) q1 (by have := over_getD_len (n := cs.length) (o := redo la) (cs := cs); have := hc.out; omega))
          have v2 := Lib.hid (hv.out.frz H7.fr)
          simp only [L3_z2] at O2
          clear O1 H7 q1 g7
          go_wp2_with fail
          refine O2.out.mono ?_
          rintro _ w8 ⟨u2, rfl, q2, H8, g8⟩
          have O3 := Lib.hid (H8.over (j := 0) (by decide) (g8 _ _ v2.out) hc.out)
          simp only [L3_z0] at O3
          clear O2 H8 v2 g8
          replace q2 := Lib.hid q2
          go_wp2_with fail
          refine O3.out.mono ?_
          rintro _ w9 ⟨u3, rfl, q3, H9, g9⟩
          replace q2 := Lib.hid (g9 _ _ q2.out)
          replace q3 := Lib.hid q3
          replace H9 := Lib.hid H9
          have hW : Hid (((overGo ((overGo cs.length (redo la) cs).getD []).length (redo lb) ((overGo cs.length (redo la) cs).getD [])).getD []).length * 8 ≤ 140737488355328) := Lib.hid (by
            have := over_getD_len (n := ((overGo cs.length (redo la) cs).getD []).length) (o := redo lb) (cs := ((overGo cs.length (redo la) cs).getD []))
            have := over_getD_len (n := cs.length) (o := redo la) (cs := cs)
            have := hc.out
            omega)
          clear O3 g9 hv hc
          generalize codeR (overGo cs.length (redo la) cs) = n1 at *
          generalize codeR (overGo ((overGo cs.length (redo la) cs).getD []).length (redo lb) ((overGo cs.length (redo la) cs).getD [])) = n2 at *
          generalize codeR (overGo cs.length (redo (la ++ lb)) cs) = n3 at *
          generalize (overGo ((overGo cs.length (redo la) cs).getD []).length (redo lb) ((overGo cs.length (redo la) cs).getD [])).getD [] = l2 at *
          generalize (overGo cs.length (redo (la ++ lb)) cs).getD [] = l3 at *
          replace hcs := Lib.hid hcs
          go_upto_region 20 with (fail)
          go_cut [160] (fun c160 wx => c160 = .bool false ∧ Hid (TL w wx (L3 0 r0 r1 r2) X (L3 [] (la ++ lb) la lb)))
          case first =>
            rcases hcs.out with rfl | ⟨rfl, rfl⟩ | ⟨rfl, rfl, rfl, rfl⟩
            · go_wp2_with fail
              refine num_b.mono ?_
              rintro _ _ ⟨rfl, rfl⟩
              go_wp2
              go_meet
              exact ⟨rfl, H9⟩
            · go_wp2_with fail
              refine num_b.mono ?_
              rintro _ _ ⟨rfl, rfl⟩
              go_wp2_with fail
              refine num_b.mono ?_
              rintro _ _ ⟨rfl, rfl⟩
              go_wp2
              go_meet
              exact ⟨rfl, H9⟩
            · have W := Lib.hid (words_b q2.out q3.out (by have := hW.out; omega))
              go_wp2_with fail
              refine num_b.mono ?_
              rintro _ _ ⟨rfl, rfl⟩
              go_wp2_with fail
              refine num_b.mono ?_
              rintro _ _ ⟨rfl, rfl⟩
              go_wp2_with fail
              refine num_b.mono ?_
              rintro _ _ ⟨rfl, rfl⟩
              go_wp2_with fail
              refine W.out.mono ?_
              rintro _ _ ⟨⟨n, rfl⟩, rfl⟩
              go_wp2
              go_meet
              exact ⟨by simp, Lib.hid (H9.out.drewN n)⟩
          case rest =>
            obtain ⟨rfl, H9⟩ := hcut
            clear q2 q3 hW hcs
            have B9 := Lib.hid (H9.out.back (j := 0) (n := la.length) (by decide) (by show la.length ≤ (la ++ lb).length; rw [List.length_append]; omega))
            clear H9
            go_wp2_with fail
            refine B9.out.mono ?_
            rintro _ w10 ⟨rfl, X10, H10⟩
            rw [L3_0] at H10
            have H10 : Hid (TL w w10 (L3 0 r0 r1 r2) X10 (L3 [] la la lb)) := Lib.hid (by
              have e : (la ++ lb).take la.length = la := List.take_left' rfl
              have H10 : TL w w10 (L3 0 r0 r1 r2) X10 (L3 [] ((la ++ lb).take la.length) la lb) := H10
              rwa [e] at H10)
            have N0 := Lib.hid (H10.out.len_ (j := 0) (by decide))
            have N1 := Lib.hid (H10.out.len_ (j := 1) (by decide))
            have K0 := Lib.hid (H10.out.mark (j := 0) (by decide))
            simp only [L3_z0, L3_z1] at N0 N1 K0
            clear B9
            go_wp2_with fail
            refine num_b.mono ?_
            rintro _ _ ⟨rfl, rfl⟩
            go_wp2_with fail
            refine N0.out.mono ?_
            rintro _ _ ⟨rfl, rfl⟩
            go_wp2_with fail
            refine N1.out.mono ?_
            rintro _ _ ⟨rfl, rfl⟩
            go_wp2_with fail
            refine K0.out.mono ?_
            rintro _ _ ⟨rfl, rfl⟩
            clear N0 N1 K0
            have hon : Hid ((redo la).length ≤ la.length) := Lib.hid redo_len
            have hoo : Hid (((redo la).map (·.1)).Nodup) := Lib.hid (redo_nodup la)
            go_wp2
            go_loopw [22] (fun iv wr => ∃ (i : Nat), i ≤ (redo la).length ∧ iv = .int .i64 i ∧ Hid (TL w wr (L3 0 r0 r1 r2) X10 (L3 [] la la lb))) (fun iv _ => (redo la).length - (intOf iv).toNat)
            case atStart => exact ⟨0, by omega, rfl, H10⟩
            case round =>
              clear H10
              obtain ⟨i, hi, rfl, HL⟩ := hrel
              have N1 := Lib.hid (HL.out.len_ (j := 1) (by decide))
              simp only [L3_z1] at N1
              by_cases hil : i < (redo la).length
              · have hii : (i : Int) < ((redo la).length : Int) := by omega
                have hri : ((redo la).length : Int) ≤ 1000 := by have := hon.out; omega
                have A0 := Lib.hid (wat_yes (HL.out.ro 0 (by decide)) (by show (redo la).length ≤ _; have := hon.out; omega) hil)
                simp only [L3_z0] at A0
                have hg := Lib.hid (rget_at hil hoo.out)
                have A1 := Lib.hid (fun (wx : World) (h : TL w wx (L3 0 r0 r1 r2) X10 (L3 [] la la lb)) => wat_yes (h.ro 1 (by decide)) (by show (redo la).length ≤ _; have := hon.out; omega) hil)
                simp only [L3_z1] at A1
                generalize ((redo la)[i]'hil).1 = ya at *
                generalize ((redo la)[i]'hil).2 = yw at *
                go_wp2_with fail
                refine N1.out.mono ?_
                rintro _ _ ⟨rfl, rfl⟩
                clear N1
                go_wp2_with fail
                refine A0.out.mono ?_
                rintro _ w11 ⟨rfl, f11⟩
                have H11 := Lib.hid (HL.out.new_ f11)
                obtain ⟨w12, hw12⟩ : ∃ u, Hid (u = w11.alloc (.cells #[.int .u64 ya, .int .u64 yw] 55)) := ⟨_, Lib.hid rfl⟩
                have H12 : Hid (TL w w12 (L3 0 r0 r1 r2) X10 (L3 [] la la lb)) := Lib.hid (by rw [hw12.out]; exact H11.out.new_ ((Fr.refl (fun _ => False) w11).alloc _))
                have B12 : Hid (Blk w12 w11.heap.size 55 #[.int .u64 ya, .int .u64 yw]) := Lib.hid (by rw [hw12.out]; exact Blk.new _ _ _)
                clear A0 HL H11 f11
                go_upto_region 28 with (fail)
                rw [← hw12.out]
                generalize w11.heap.size = s0 at *
                clear hw12
                go_wp2_with fail
                refine (A1.out w12 H12.out).mono ?_
                rintro _ w13 ⟨rfl, f13⟩
                have H13 := Lib.hid (H12.out.new_ f13)
                have B13 := Lib.hid (f13.blk B12.out fun h => h)
                obtain ⟨w14, hw14⟩ : ∃ u, Hid (u = w13.alloc (.cells #[.int .u64 ya, .int .u64 yw] 55)) := ⟨_, Lib.hid rfl⟩
                have H14 : Hid (TL w w14 (L3 0 r0 r1 r2) X10 (L3 [] la la lb)) := Lib.hid (by rw [hw14.out]; exact H13.out.new_ ((Fr.refl (fun _ => False) w13).alloc _))
                have B14 : Hid (Blk w14 s0 55 #[.int .u64 ya, .int .u64 yw]) := Lib.hid (by rw [hw14.out]; exact B13.out.alloc _)
                have D14 : Hid (Blk w14 w13.heap.size 55 #[.int .u64 ya, .int .u64 yw]) := Lib.hid (by rw [hw14.out]; exact Blk.new _ _ _)
                clear A1 H12 H13 B12 B13 f13
                go_upto_region 29 with (fail)
                rw [← hw14.out]
                generalize w13.heap.size = s1 at *
                clear hw14
                have c0 : w14.cell? ⟨s0, 0, none⟩ = some (.int .u64 ya) := B14.out.cell 0
                have c1 : w14.cell? ⟨s0, 1, none⟩ = some (.int .u64 yw) := B14.out.cell 1
                have d0 : w14.cell? ⟨s1, 0, none⟩ = some (.int .u64 ya) := D14.out.cell 0
                have d1 : w14.cell? ⟨s1, 1, none⟩ = some (.int .u64 yw) := D14.out.cell 1
                have G := Lib.hid (wget_b (a := ya) H14.out.tabr (H14.out.ro 0 (by decide)) (by show (redo la).length ≤ _; have := hon.out; omega))
                simp only [L3_z0, hg.out] at G
                have cn : ∀ w : World, (binOp .neq 55 (.agg #[.int .u64 ya, .int .u64 yw]) (.agg #[.int .u64 ya, .int .u64 yw])).run Tryd.prog w = .ok (.bool false) w := fun w => by rw [cell_neq]; simp
                clear hg B14 D14
                go_wp2_with fail
                refine G.out.mono ?_
                rintro _ _ ⟨rfl, n, rfl⟩
                have c0 : (w14.drewN n).cell? ⟨s0, 0, none⟩ = some (.int .u64 ya) := c0
                have c1 : (w14.drewN n).cell? ⟨s0, 1, none⟩ = some (.int .u64 yw) := c1
                have d0 : (w14.drewN n).cell? ⟨s1, 0, none⟩ = some (.int .u64 ya) := d0
                have d1 : (w14.drewN n).cell? ⟨s1, 1, none⟩ = some (.int .u64 yw) := d1
                have H15 := Lib.hid (H14.out.drewN n)
                clear G H14
                generalize w14.drewN n = w15 at *
                go_wp2
                go_roundw
                case rel => exact ⟨i + 1, by omega, by simp, H15⟩
                case measure => simp [intOf]; omega
              · obtain rfl : i = (redo la).length := by omega
                have B10 := Lib.hid (HL.out.back (j := 0) (n := 0) (by decide) (Nat.zero_le _))
                clear HL
                go_wp2_with fail
                refine N1.out.mono ?_
                rintro _ _ ⟨rfl, rfl⟩
                clear N1
                go_wp2_with fail
                refine B10.out.mono ?_
                rintro _ w11 ⟨rfl, X11, H11⟩
                rw [L3_0] at H11
                have H11 : Hid (TL w w11 (L3 0 r0 r1 r2) X11 (L3 [] [] la lb)) := Lib.hid H11
                have N2 := Lib.hid (H11.out.len_ (j := 0) (by decide))
                simp only [L3_z0] at N2
                rw [show (redo []).length = 0 from rfl] at N2
                have W := Lib.hid (works_b H11.out.tabr)
                have F := Lib.hid H11.out.fr
                clear B10 H11
                go_wp2_with fail
                refine num_b.mono ?_
                rintro _ _ ⟨rfl, rfl⟩
                go_wp2_with fail
                refine N2.out.mono ?_
                rintro _ _ ⟨rfl, rfl⟩
                go_wp2_with fail
                refine W.out.mono ?_
                rintro _ w12 ⟨rfl, f12⟩
                have F := Lib.hid (F.out.trans f12)
                go_wp2
                go_ret
                exact ⟨rfl, F.out⟩
end Go.Proofs.YtfhpnlaabgkpjaaDoor
/- LogsBack: the law's walk, whatever came in. -/
namespace Go.Proofs.YtfhpnlaabgkpjaaDoor
open Go.RowKit
theorem logsBack_walk {W : World} {A B C : Option Addr} {na ca nb cb cc : Nat} {cs : List Int} (h1 : RowsIn W A na ca [.u64, .u64]) (h2 : RowsIn W B nb cb [.u64, .u64]) (h3 : WordsIn W C cs cc) (hT : Tab W) :
    Calls Tryd.prog 4 #[.slice A na ca, .slice B nb cb, .slice C cs.length cc] W fun e w' => e = .returned (.bool true) ∧ Fr (fun _ => False) W (fun _ => False) w' := by
  have la := h1.len
  have lb := h2.len
  have lc := h3.len
  simp only [List.length_cons, List.length_nil] at la lb
  by_cases hl : 1000 < na ∨ 1000 < nb
  · exact logsBack_long hT (by omega) (by omega) hl
  · obtain ⟨l1, rfl, b1, c1⟩ := rows_list h1
    obtain ⟨l2, rfl, b2, c2⟩ := rows_list h2
    exact logsBack_short hT (by omega) (by omega) c1 c2 b1 b2 h3.lies (by omega)
end Go.Proofs.YtfhpnlaabgkpjaaDoor
/- LogsBack: its statement out of its walk, and its card. -/
namespace Go.Proofs.YtfhpnlaabgkpjaaDoor.logsBack
open Go.ChangeShapes Go.WideShapes Go.ChangeAt Go.WideMaps Go.WideElems Go.RowKit Go.Deep
set_option linter.unusedVariables false
theorem own : ownKnob Tryd.prog.godebug = none := by kernel_rfl
theorem laidOut : laidOutB Tryd.prog = true := by kernel_rfl
theorem g32 : Tryd.prog.globalNamed "math/bits.deBruijn32tab" = some 0 := by kernel_rfl
theorem g64 : Tryd.prog.globalNamed "math/bits.deBruijn64tab" = some 1 := by kernel_rfl
theorem t64 : (Tryd.prog.globals[1]?).map (·.type) = some 115 := by kernel_rfl
theorem door_met (os : Os) (args : Array Value) : laidMetH Tryd.prog Rows.logsBackRow.laid ((World.doorLaid Tryd.prog 400 os).forCall (fun _ _ => 0) ⟨#[], args, []⟩).memory :=
  laidMetH_of_parts3 (fuel := 8) (laidMet_of_run' 8 (by kernel_rfl) (by kernel_rfl)) (by kernel_rfl) (by kernel_rfl)
theorem of_laid {W : World} (h : laidMetH Tryd.prog Rows.logsBackRow.laid W) : Tab W := by
  rw [MakeChecks.laidMetH_plain _ _ _ (by kernel_rfl)] at h
  obtain ⟨ps, ⟨g0, t0, cs0, f0, p0, q0, hg0, ht0, hv0, hd0, ⟨g1, t1, cs1, f1, p1, q1, hg1, ht1, hv1, hd1, _, _⟩, _⟩, _, _⟩ := h
  obtain rfl := Option.some.inj (g64.symm.trans hg1)
  obtain rfl := Option.some.inj (t64.symm.trans ht1)
  obtain ⟨xs, m1, rfl, hx1, hlen, hn3, hel⟩ := DataW.trod_array Tryd.underlying115 hd1
  have c1 : Tryd.prog.cellsOf 5 = 1 := by kernel_rfl
  rw [c1] at hel
  have hL : (Rows.laid_math_bits_deBruijn64tab : DataW Unit) = .agg (Lib.deBruijn64tab.map fun (n : Nat) => .lit (.int .u8 (n : Int))) := by kernel_rfl
  rw [hL] at hx1
  simp only [Prod.mk.injEq, DataW.agg.injEq] at hx1
  have hx := hx1.1
  have hT64 : Lib.deBruijn64tab.length = 64 := by decide
  intro i hi
  rw [hT64] at hi
  have hxi := congrArg (fun l => l[i]?) hx
  simp only [List.getElem?_map] at hxi
  have h1 := hel i hi
  obtain ⟨x, hxx⟩ : ∃ x, xs[i]? = some x := ⟨xs[i]'(by omega), List.getElem?_eq_getElem (by omega)⟩
  obtain ⟨n, hn⟩ : ∃ n, Lib.deBruijn64tab[i]? = some n := ⟨Lib.deBruijn64tab[i]'(by omega), List.getElem?_eq_getElem (by omega)⟩
  rw [hxx, hn] at hxi
  simp only [Option.map_some, Option.some.injEq] at hxi
  rw [hxx] at h1
  obtain ⟨k, e1, e2, _⟩ := DataW.trod_int (k := .u8) Tryd.underlying5 h1
  have hk : k = (n : Int) := by rw [e2] at hxi; simpa using hxi.symm
  have hcell := World.var?_cell hg1 hv1 i
  rw [hcell, List.getD_eq_getElem?_getD, hn]
  rw [Nat.mul_one] at e1
  have hg : cs1.toList[i]? = some (.int .u8 k) := by
    have := congrArg (fun l => l[0]?) e1
    simpa using this
  rw [← Array.getElem?_toList, hg, hk]
  rfl
set_option maxRecDepth 100000 in
theorem lifted (os : Os) (started : os.Started) (H : Type) (enc : TypeId × Value → H) :
    ReturnsInHanded {} Tryd.checked os 4 .any (fun w args => (Rows.logsBackSpec.pre enc Tryd.prog Tryd.f4 [] false w args ∧ laidMetH Tryd.prog Rows.logsBackRow.laid w) ∧ sizedMet enc Tryd.prog Tryd.f4 (OpenSpec.ofChange Rows.logsBackSpec) false w args)
      (Rows.logsBackSpec.post enc Tryd.prog Tryd.f4 false true false false) := by
  refine returnsInHanded_of_change_and (C := Tryd.checked) (X := fun w _ => laidMetH Tryd.prog Rows.logsBackRow.laid w) (fun _ _ _ hh h => h.of_heap hh) own started (by kernel_rfl) Tryd.func4
    (ChangeSpec.witness_shaped (enc := enc) (C := Tryd.checked) (os := os) (X := fun w _ => laidMetH Tryd.prog Rows.logsBackRow.laid w) false (World.doorLaid Tryd.prog 400 os) #[.slice none 0 0, .slice none 0 0, .slice none 0 0] 8 rfl (World.shaped_of_RefB (by kernel_rfl) (by kernel_rfl)) (by kernel_rfl) (by kernel_rfl) (by kernel_rfl) (door_met os _)) ?_
  intro W base args ds gs before hval0 hW _ hsz0 hL _
  have hval : ∀ (j : Nat) t v, Tryd.f4.params[j]? = some t → args[j]? = some v → Value.okWide Tryd.prog W .any base t v := hval0
  have hsz : (DataW.weightsEach Tryd.prog (Tryd.f4.params.toList ++ Rows.logsBackSpec.plain.varTypes Tryd.prog) (ds ++ gs)).all (· ≤ reachBytes) = true := hsz0
  have hW' := hW
  obtain ⟨p, q, hA0, hV, rfl, hfz, hnd⟩ := hW
  have hA : DataW.TrodAll enc Tryd.prog W 0 (fun _ => true) true Tryd.f4.params.toList args.toList ds p := hA0
  rw [Tryd.params4] at hA hval hsz
  obtain ⟨v0, vs0, d0, ds0, p0, q0, hargs, rfl, rfl, h0, r0⟩ := trodAll_cons hA
  obtain ⟨v1, vs1, d1, ds1, p1, q1, rfl, rfl, rfl, h1, r1⟩ := trodAll_cons r0
  obtain ⟨v2, vs2, d2, ds2, p2, q2, rfl, rfl, rfl, h2, r2⟩ := trodAll_cons r1
  obtain ⟨rfl, rfl, rfl⟩ := trodAll_nil r2
  obtain rfl : args = #[v0, v1, v2] := by cases args; simp_all
  obtain ⟨rfl, rfl⟩ := trodVars_none hV
  obtain ⟨a0, len0, cap0, rfl⟩ := okWide_slice Tryd.underlying29 (hval 0 29 v0 rfl rfl)
  have k0 := h0
  have lt0 : ∀ x ∈ p0, x.block < W.heap.size := by obtain ⟨m, hm⟩ := k0; exact DataW.trod_lt m _ _ _ hm
  have w0 : RowsIn W a0 len0 cap0 [.u64, .u64] := open_rows hsz (j := 0) rfl rfl Tryd.underlying29 Tryd.underlying55 (by kernel_rfl) (by kernel_rfl) (by decide +kernel) rfl (by kernel_rfl) h0
  obtain ⟨a1, len1, cap1, rfl⟩ := okWide_slice Tryd.underlying29 (hval 1 29 v1 rfl rfl)
  have k1 := h1
  have lt1 : ∀ x ∈ p1, x.block < W.heap.size := by obtain ⟨m, hm⟩ := k1; exact DataW.trod_lt m _ _ _ hm
  have w1 : RowsIn W a1 len1 cap1 [.u64, .u64] := open_rows hsz (j := 1) rfl rfl Tryd.underlying29 Tryd.underlying55 (by kernel_rfl) (by kernel_rfl) (by decide +kernel) rfl (by kernel_rfl) h1
  obtain ⟨a2, len2, cap2, rfl⟩ := okWide_slice Tryd.underlying39 (hval 2 39 v2 rfl rfl)
  have k2 := h2
  have lt2 : ∀ x ∈ p2, x.block < W.heap.size := by obtain ⟨m, hm⟩ := k2; exact DataW.trod_lt m _ _ _ hm
  obtain ⟨l2, rfl, w2⟩ := open_words hsz (j := 2) rfl rfl Tryd.underlying39 Tryd.underlying38 (by kernel_rfl) (by kernel_rfl) h2
  clear hA0 hval0 hsz0
  simp only [List.append_nil] at hW'
  have hT := of_laid hL
  refine (logsBack_walk w0 w1 w2 hT).mono fun e W' ⟨he, fr⟩ => ?_
  have bel : Below W.heap.size W W' := fr.below (fun _ h => h.elim) (Nat.le_refl _)
  subst he
  exact ⟨_, rfl, _, _, _, [], _, [], hW', trodAll_mk1 (shut_bool Tryd.underlying4 _), (trodAll_cons_mk (Below.trod laidOut (by kernel_rfl) (of_decide_eq_true (by kernel_rfl)) k0 bel lt0) (trodAll_cons_mk (Below.trod laidOut (by kernel_rfl) (of_decide_eq_true (by kernel_rfl)) k1 bel lt1) (trodAll_cons_mk (Below.trod laidOut (by kernel_rfl) (of_decide_eq_true (by kernel_rfl)) k2 bel lt2) trodAll_mk0))), rfl, bel.frame _, fun h => by cases h⟩
theorem proved0 : Rows.LogsBackSaid :=
  OpenClaim.holds_of_wide 4 Tryd.f4 rfl rfl rfl rfl rfl rfl rfl ⟨rfl, rfl, rfl, rfl, rfl⟩ rfl rfl rfl rfl rfl (by kernel_rfl) Tryd.func4 (by kernel_rfl)
    (of_decide_eq_true (by kernel_rfl)) (by unfold Func.isWrapper; first | (rw [if_pos (by decide +kernel)]; kernel_rfl) | (rw [if_neg (by decide +kernel)]; exact ⟨rfl, rfl⟩))
    (fun os started H enc _ => lifted os started H enc)
theorem proved : Rows.LogsBackCardSaid :=
  Claim7.holds_tied_plain_at .later [] [.data, .data] true Rows.logsBackCard.stood.harness false
    proved0 (fun _ h => by cases h) (by kernel_rfl) (fun _ h => by cases h) logsBack_row_tie rfl ⟨rfl, rfl⟩ (by kernel_rfl) rfl
    (fun f fn hf hfn => by
      obtain rfl : f = 4 := Option.some.inj ((show Tryd.prog.funcNamed "parley/parleylaw05.LogsBack" = some 4 by kernel_rfl).symm.trans hf) |>.symm
      obtain rfl : fn = Tryd.f4 := (Option.some.inj (Tryd.func4.symm.trans hfn)).symm
      exact ⟨by kernel_rfl, fun j t ht => by
        rw [Tryd.params4] at ht
        rcases j with _ | j
        · obtain rfl : t = 29 := by simpa using ht.symm
          exact (show Tryd.prog.wantsStandIn 29 = false by kernel_rfl)
        · skip
          rcases j with _ | j
          · obtain rfl : t = 29 := by simpa using ht.symm
            exact (show Tryd.prog.wantsStandIn 29 = false by kernel_rfl)
          · skip
            rcases j with _ | j
            · obtain rfl : t = 39 := by simpa using ht.symm
              exact (show Tryd.prog.wantsStandIn 39 = false by kernel_rfl)
            · simp at ht⟩)
    (by kernel_rfl)
end Go.Proofs.YtfhpnlaabgkpjaaDoor.logsBack
