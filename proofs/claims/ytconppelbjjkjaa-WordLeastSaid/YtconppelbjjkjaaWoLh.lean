/- WordLeast: the law's walk. -/
import Derived.Test.YtconppelbjjkjaaWoLi
import Derived.Test.YtconppelbjjkjaaMixH
import Derived.Deep.DeepCutAuto
namespace Go.Proofs.Ytconppelbjjkjaa
open Go.RowKit
set_option maxHeartbeats 16000000
set_option linter.unusedVariables false
set_option linter.unusedSimpArgs false

set_option maxRecDepth 100000 in
theorem wordLeast_walk {W : World} {A : Option Addr} {l : List Int} {c : Nat} (h : WordsIn W A l c) :
    Calls Try.prog 7 #[.slice A l.length c] W fun e w' => e = .returned (.bool true) ∧ Fr (fun _ => False) W (fun _ => False) w' := by
  have hmx : Try.prog.follows .mixedOrders = true := by kernel_rfl
  have hlz := h.len
  have hli : (l.length : Int) ≤ 17592186043904 := by omega
  replace hlz := Lib.hid hlz
  replace h := Lib.hid h
  go_enter Try.func7, Try.ntmps7
  go_wp2
  go_loopw [3, 4, 5, 6, 7, 8, 9, 10] (fun c3 c4 c5 c6 c7 c8 c9 c10 wr => ∃ (i : Nat) (A0 A1 A2 A3 A4 A5 A6 : Option Addr) (n0 n1 n2 n3 n4 n5 n6 k0 k1 k2 k3 k4 k5 k6 : Nat) (R S L2 : List Nat) (I1 I2 I4 I8 : List Int), i ≤ l.length ∧ c10 = .int .i64 i ∧ (c3 = .slice A0 n0 k0 ∧ c4 = .slice A1 n1 k1 ∧ c5 = .slice A2 n2 k2 ∧ c6 = .slice A3 n3 k3 ∧ c7 = .slice A4 n4 k4 ∧ c8 = .slice A5 n5 k5 ∧ c9 = .slice A6 n6 k6) ∧ Hid (WL W wr (.slice A0 n0 k0) (.slice A1 n1 k1) (.slice A2 n2 k2) (.slice A3 n3 k3) (.slice A4 n4 k4) (.slice A5 n5 k5) (.slice A6 n6 k6) R S L2 I1 I2 I4 I8) ∧
    Hid (R.length = i ∧ S.length = i ∧ L2.length = i ∧ I1.length = i ∧ I2.length = i ∧ I4.length = i ∧ I8.length = i) ∧ Hid ((∀ x ∈ R, x < 18446744073709551616) ∧ (∀ x ∈ S.zip L2, Wd x.1 x.2) ∧ ∀ x ∈ L2, x < 18446744073709551616)) (fun _ _ _ _ _ _ _ c10 _ => l.length - (intOf c10).toNat)
  case atStart => exact ⟨0, none, none, none, none, none, none, none, 0, 0, 0, 0, 0, 0, 0, 0, 0, 0, 0, 0, 0, 0, [], [], [], [], [], [], [], by omega, rfl, ⟨rfl, rfl, rfl, rfl, rfl, rfl, rfl⟩, Lib.hid (WL.start W), Lib.hid ⟨rfl, rfl, rfl, rfl, rfl, rfl, rfl⟩, Lib.hid ⟨by simp, by simp, by simp⟩⟩
  case round =>
    obtain ⟨i, A0, A1, A2, A3, A4, A5, A6, n0, n1, n2, n3, n4, n5, n6, k0, k1, k2, k3, k4, k5, k6, R, S, L2, I1, I2, I4, I8, hi, rfl, ⟨rfl, rfl, rfl, rfl, rfl, rfl, rfl⟩, HL, hn, hb⟩ := hrel
    by_cases hil : i < l.length
    · obtain ⟨ad, rfl⟩ : ∃ ad, A = some ad := by
        cases A with
        | none => have := (h.out.nil rfl).1; rw [this] at hil; simp at hil
        | some ad => exact ⟨ad, rfl⟩
      have d0 := h.out.cell ad rfl i hil
      have hx : 0 ≤ l.getD i 0 ∧ l.getD i 0 ≤ 18446744073709551615 := by rw [List.getD_eq_getElem?_getD, List.getElem?_eq_getElem hil]; exact h.out.bd _ (List.getElem_mem hil)
      generalize l.getD i 0 = x at *
      replace hx := Lib.hid hx
      have hii : (i : Int) < (l.length : Int) := by omega
      replace d0 := Lib.hid d0
      have c0 := HL.out.fr.keepc d0.out
      obtain ⟨p, w1, hp, hw1, hr1⟩ := narrow_run x.toNat wr
      have f1 : Hid (Fr (fun _ => False) wr (fun _ => False) w1) := Lib.hid (by rcases hw1 with rfl | rfl; exact Fr.refl _ _; exact (Fr.refl _ wr).drewN 1)
      have H1 := Lib.hid (HL.out.new_ f1.out)
      have c1 := f1.out.keepc c0
      clear hw1 HL
      have lz : Hid ((i + 1) * 8 ≤ 140737488355328 ∧ i + 1 ≤ 9223372036854775807) := Lib.hid (by have := hlz.out; omega)
      have z0 : Hid (R.length + 1 ≤ 9223372036854775807) := Lib.hid (by have := lz.out; have := hn.out.1; omega)
      have y0 : Hid ((R.length + 1) * 8 ≤ 140737488355328) := Lib.hid (by have := lz.out; have := hn.out.1; omega)
      go_upto_region 14 with (at_builtin; refine wpList_f64 w1 rfl (.tmp 45) (.tmp 47) rfl (.slice A0 n0 k0) R x.toNat rfl H1.out.s0 rfl z0.out y0.out ?_; intro B0 q0 w2 hc hs hf; have H2 := Lib.hid (WL.p0 H1.out hs hf); have c2 := H2.out.fr.keepc d0.out; clear hc hs hf)
      have z1 : Hid (S.length + 1 ≤ 9223372036854775807) := Lib.hid (by have := lz.out; have := hn.out.2.1; omega)
      have y1 : Hid ((S.length + 1) * 4 ≤ 140737488355328) := Lib.hid (by have := lz.out; have := hn.out.2.1; omega)
      go_upto_region 15 with (at_builtin; refine wpList_f32 w2 rfl (.tmp 49) (.tmp 51) rfl (.slice A1 n1 k1) S p rfl H2.out.s1 rfl z1.out y1.out ?_; intro B1 q1 w3 hc hs hf; have H3 := Lib.hid (WL.p1 H2.out hs hf); have c3 := H3.out.fr.keepc d0.out; clear hc hs hf)
      obtain ⟨p2, w3c, hp2, hw3, hr3⟩ := wide_run p hp w3
      have f3c : Hid (Fr (fun _ => False) w3 (fun _ => False) w3c) := Lib.hid (by rcases hw3 with rfl | rfl; exact Fr.refl _ _; exact (Fr.refl _ w3).drewN 1)
      have H3 := Lib.hid (H3.out.new_ f3c.out)
      have c3 := f3c.out.keepc c3
      clear hw3
      have z2 : Hid (L2.length + 1 ≤ 9223372036854775807) := Lib.hid (by have := lz.out; have := hn.out.2.2.1; omega)
      have y2 : Hid ((L2.length + 1) * 8 ≤ 140737488355328) := Lib.hid (by have := lz.out; have := hn.out.2.2.1; omega)
      go_upto_region 16 with (at_builtin; refine wpList_f64 w3c rfl (.tmp 53) (.tmp 56) rfl (.slice A2 n2 k2) L2 p2 rfl H3.out.s2 rfl z2.out y2.out ?_; intro B2 q2 w4 hc hs hf; have H4 := Lib.hid (WL.p2 H3.out hs hf); have c4 := H4.out.fr.keepc d0.out; clear hc hs hf)
      have z3 : Hid (I1.length + 1 ≤ 9223372036854775807) := Lib.hid (by have := lz.out; have := hn.out.2.2.2.1; omega)
      have y3 : Hid ((I1.length + 1) * 1 ≤ 140737488355328) := Lib.hid (by have := lz.out; have := hn.out.2.2.2.1; omega)
      go_upto_region 17 with (at_builtin; refine wpList_i8 w4 rfl (.tmp 58) (.tmp 64) rfl (.slice A3 n3 k3) I1 _ rfl H4.out.s3 rfl z3.out y3.out ?_; intro B3 q3 w5 hc hs hf; have H5 := Lib.hid (WL.p3 H4.out hs hf); have c5 := H5.out.fr.keepc d0.out; clear hc hs hf)
      have z4 : Hid (I2.length + 1 ≤ 9223372036854775807) := Lib.hid (by have := lz.out; have := hn.out.2.2.2.2.1; omega)
      have y4 : Hid ((I2.length + 1) * 2 ≤ 140737488355328) := Lib.hid (by have := lz.out; have := hn.out.2.2.2.2.1; omega)
      go_upto_region 18 with (at_builtin; refine wpList_i16 w5 rfl (.tmp 66) (.tmp 72) rfl (.slice A4 n4 k4) I2 _ rfl H5.out.s4 rfl z4.out y4.out ?_; intro B4 q4 w6 hc hs hf; have H6 := Lib.hid (WL.p4 H5.out hs hf); have c6 := H6.out.fr.keepc d0.out; clear hc hs hf)
      have z5 : Hid (I4.length + 1 ≤ 9223372036854775807) := Lib.hid (by have := lz.out; have := hn.out.2.2.2.2.2.1; omega)
      have y5 : Hid ((I4.length + 1) * 4 ≤ 140737488355328) := Lib.hid (by have := lz.out; have := hn.out.2.2.2.2.2.1; omega)
      go_upto_region 19 with (at_builtin; refine wpList_i32 w6 rfl (.tmp 74) (.tmp 80) rfl (.slice A5 n5 k5) I4 _ rfl H6.out.s5 rfl z5.out y5.out ?_; intro B5 q5 w7 hc hs hf; have H7 := Lib.hid (WL.p5 H6.out hs hf); have c7 := H7.out.fr.keepc d0.out; clear hc hs hf)
      have z6 : Hid (I8.length + 1 ≤ 9223372036854775807) := Lib.hid (by have := lz.out; have := hn.out.2.2.2.2.2.2; omega)
      have y6 : Hid ((I8.length + 1) * 8 ≤ 140737488355328) := Lib.hid (by have := lz.out; have := hn.out.2.2.2.2.2.2; omega)
      go_wp2_with (at_builtin; refine wpList_i64 w7 rfl (.tmp 82) (.tmp 88) rfl (.slice A6 n6 k6) I8 _ rfl H7.out.s6 rfl z6.out y6.out ?_; intro B6 q6 w8 hc hs hf; have H8 := Lib.hid (WL.p6 H7.out hs hf); have c8 := H8.out.fr.keepc d0.out; clear hc hs hf)
      go_wp2
      go_roundw
      case rel =>
        obtain ⟨b1, b2, b3, b4, b5, b6, b7⟩ := hn.out
        refine ⟨i + 1, _, _, _, _, _, _, _, _, _, _, _, _, _, _, _, _, _, _, _, _, _, _, _, _, _, _, _, _, by omega, by simp, ⟨rfl, rfl, rfl, rfl, rfl, rfl, rfl⟩, H8, Lib.hid ⟨by simp [b1], by simp [b2], by simp [b3], by simp [b4], by simp [b5], by simp [b6], by simp [b7]⟩, Lib.hid ⟨fun y hy => ?_, fun y hy => ?_, fun y hy => ?_⟩⟩
        · rcases List.mem_append.1 hy with h1 | h1
          · exact hb.out.1 y h1
          · have := List.mem_singleton.1 h1; have := hx.out; omega
        · rw [List.zip_append (by omega)] at hy
          rcases List.mem_append.1 hy with h1 | h1
          · exact hb.out.2.1 y h1
          · have e := List.mem_singleton.1 h1
            rw [e]
            exact hp2
        · rcases List.mem_append.1 hy with h1 | h1
          · exact hb.out.2.2 y h1
          · rw [List.mem_singleton.1 h1]; exact hp2.1.2.1
      case measure => simp [intOf]; omega
    · obtain rfl : i = l.length := by omega
      clear h hi hil
      have z9 : Hid (R.length ≤ 9223372036854775807) := Lib.hid (by have := hlz.out; have := hn.out.1; omega)
      have y9 : Hid (R.length * 8 ≤ 140737488355328) := Lib.hid (by have := hlz.out; have := hn.out.1; omega)
      go_upto_region 21 with (at_builtin; refine wpList_f64s wr rfl _ _ rfl (.slice A0 n0 k0) R rfl rfl HL.out.s0 z9.out y9.out ?_; intro A7 k7 w1 hs hf; have V7 := Lib.hid (Sl.nums (f := fun b => Value.float .f64 b) (fun _ => rfl) hs); have H1 := Lib.hid (HL.out.new_ hf); clear hs hf)
      obtain ⟨⟨rfl, rfl, rfl, rfl, rfl, rfl, rfl⟩, HA⟩ := H1.out.wa hn.out
      replace HA := Lib.hid HA
      clear H1 HL z9 y9
      have l0 := hn.out.1
      have lz : Hid (l.length ≤ 4611686018427387904) := Lib.hid (by have := hlz.out; omega)
      have lzip : (S.zip L2).length = l.length := by rw [List.length_zip, hn.out.2.1, hn.out.2.2.1, Nat.min_self]
      have K0 := Lib.hid (least64_b (c := k0) HA.out.m0 hb.out.1 (by rw [l0]; exact lz.out))
      have K1 := Lib.hid (leastRef_b (c := k0) HA.out.m0 hb.out.1 (by rw [l0]; exact lz.out))
      have K2 := Lib.hid (least32_b (c := k1) (HA.out.m1.zip (L2 := L2)) (fun x hx => (hb.out.2.1 x hx).1) (by rw [lzip]; exact lz.out))
      have K3 := Lib.hid (leastRef_b (c := k2) HA.out.m2 hb.out.2.2 (by rw [hn.out.2.2.1]; exact lz.out))
      have hwd := Lib.hid (least_wd (hn.out.2.1.trans hn.out.2.2.1.symm) hb.out.2.1)
      rw [l0] at K0 K1
      rw [lzip] at K2
      rw [hn.out.2.2.1] at K3
      rw [l0]
      replace l0 := Lib.hid l0
      replace lzip := Lib.hid lzip
      generalize least aheadW 0 R = va at *
      generalize (least ltP (0, 0) (S.zip L2)).1 = vc at *
      generalize least aheadW 0 L2 = vd at *
      generalize hfl : decide (0 < l.length) = fl at *
      replace hfl := Lib.hid hfl
      go_wp2_with fail
      refine K0.out.mono ?_
      rintro _ _ ⟨rfl, rfl⟩
      go_wp2_with fail
      refine K1.out.mono ?_
      rintro _ _ ⟨rfl, rfl⟩
      go_wp2_with fail
      refine K2.out.mono ?_
      rintro _ _ ⟨rfl, rfl⟩
      go_wp2_with fail
      refine K3.out.mono ?_
      rintro _ _ ⟨rfl, rfl⟩
      clear K0 K1 K2 K3
      have AL := Lib.hid (alike_any va va w1)
      rw [alike_self] at AL
      obtain ⟨p3, w2, hp3, hw2, hr2⟩ := wide_run vc hwd.out.1.1 w1
      have f2 : Hid (Fr (fun _ => False) w1 (fun _ => False) w2) := Lib.hid (by rcases hw2 with rfl | rfl; exact Fr.refl _ _; exact (Fr.refl _ w1).drewN 1)
      have AM := Lib.hid (alike_any p3 vd w2)
      rw [wd_alike hp3 hwd.out] at AM
      have HB := Lib.hid (HA.out.new_ f2.out)
      have V8 := Lib.hid (V7.out.frs f2.out)
      clear hw2 hp3 HA V7 f2
      cases fl
      all_goals
        go_wp2_with fail
        refine AL.out.mono ?_
        rintro _ _ ⟨rfl, rfl⟩
        go_wp2_with fail
        refine AM.out.mono ?_
        rintro _ _ ⟨rfl, rfl⟩
        clear AL AM
        go_upto_region 27 with (fail)
        go_wp2
        go_loopw [22] (fun iv wr => ∃ (i : Nat), i ≤ l.length ∧ iv = .int .i64 i ∧ Hid (WA W wr l.length A0 A1 A2 A3 A4 A5 A6 R S L2 I1 I2 I4 I8) ∧ Hid (Nums (fun b => Value.float FloatKind.f64 b) wr A7 R)) (fun iv _ => l.length - (intOf iv).toNat)
        case atStart => exact ⟨0, by omega, rfl, HB, V8⟩
        case round =>
          clear HB V8
          obtain ⟨i, hi, rfl, HB, V8⟩ := hrel
          by_cases hil : i < l.length
          · have hlr : i < R.length := by rw [l0.out]; exact hil
            obtain ⟨a0, e0, c0⟩ := HB.out.m0 i hlr
            obtain ⟨a7, e7, c7⟩ := V8.out i hlr
            subst e0 e7
            generalize R[i]'hlr = x at *
            have AX := Lib.hid (fun w => alike_any x x w)
            rw [alike_self] at AX
            have hii : (i : Int) < (l.length : Int) := by omega
            go_wp2_with fail
            refine wp_region_mixH (fun _ => True) [3, 3, 3, 1, 3, 3, 3, 1, 2, 3] (List.range 10) (by kernel_rfl) (by kernel_rfl) (fun _ _ h => h) trivial ?_
            repeat ((first | refine wpMixH_pure rfl rfl (fun K hK => ?_) | refine wpMixH_loc rfl rfl (fun K hK => ?_) | refine wpMixH_any rfl rfl (fun K hK => ?_)); go_simp; refine hK _ _ ?_; clear hK K)
            refine wpMixH_loud rfl rfl (fun m1 K hK => ?_)
            go_wp2_with fail
            refine (AX.out _).mono ?_
            rintro _ _ ⟨rfl, rfl⟩
            go_wp2_with fail
            refine hK _ _ (fun h => (Bool.false_ne_true ((Eq.symm (by kernel_rfl)).trans h)).elim) ?_; clear hK K
            repeat ((first | refine wpMixH_pure rfl rfl (fun K hK => ?_) | refine wpMixH_loc rfl rfl (fun K hK => ?_) | refine wpMixH_any rfl rfl (fun K hK => ?_)); go_simp; refine hK _ _ ?_; clear hK K)
            refine wpMixH_nil (fun m2 => ?_)
            have HC := Lib.hid (HB.out.new_ ((Fr.refl (fun _ => False) wr).drewN (1 + m1 + m2)))
            have VC := Lib.hid (V8.out.frs ((Fr.refl (fun _ => False) wr).drewN (1 + m1 + m2)))
            go_wp2
            go_roundw
            case rel => exact ⟨i + 1, by omega, by simp, HC, VC⟩
            case measure => simp [intOf]; omega
          · obtain rfl : i = l.length := by omega
            clear V8 hil hi
            have Q3 := Lib.hid (least_i8_b (c := k3) HB.out.m3 trivial (by rw [hn.out.2.2.2.1]; exact lz.out))
            have B3 := Lib.hid (least_low I1)
            have E3 : Hid (least ltI 0 I1 ∈ I1 ∨ (I1 = [] ∧ least ltI 0 I1 = 0)) := Lib.hid (by
              by_cases e : I1 = []
              · exact .inr ⟨e, by rw [e]; rfl⟩
              · exact .inl (least_mem _ _ _ e))
            rw [hn.out.2.2.2.1, hfl.out] at Q3
            generalize least ltI 0 I1 = m3 at *
            have G3 := Lib.hid (among_i8 (c := k3) HB.out.m3 E3.out (by rw [hn.out.2.2.2.1]; exact lz.out))
            rw [hn.out.2.2.2.1] at G3
            have Q4 := Lib.hid (least_i16_b (c := k4) HB.out.m4 trivial (by rw [hn.out.2.2.2.2.1]; exact lz.out))
            have B4 := Lib.hid (least_low I2)
            have E4 : Hid (least ltI 0 I2 ∈ I2 ∨ (I2 = [] ∧ least ltI 0 I2 = 0)) := Lib.hid (by
              by_cases e : I2 = []
              · exact .inr ⟨e, by rw [e]; rfl⟩
              · exact .inl (least_mem _ _ _ e))
            rw [hn.out.2.2.2.2.1, hfl.out] at Q4
            generalize least ltI 0 I2 = m4 at *
            have G4 := Lib.hid (among_i16 (c := k4) HB.out.m4 E4.out (by rw [hn.out.2.2.2.2.1]; exact lz.out))
            rw [hn.out.2.2.2.2.1] at G4
            have Q5 := Lib.hid (least_i32_b (c := k5) HB.out.m5 trivial (by rw [hn.out.2.2.2.2.2.1]; exact lz.out))
            have B5 := Lib.hid (least_low I4)
            have E5 : Hid (least ltI 0 I4 ∈ I4 ∨ (I4 = [] ∧ least ltI 0 I4 = 0)) := Lib.hid (by
              by_cases e : I4 = []
              · exact .inr ⟨e, by rw [e]; rfl⟩
              · exact .inl (least_mem _ _ _ e))
            rw [hn.out.2.2.2.2.2.1, hfl.out] at Q5
            generalize least ltI 0 I4 = m5 at *
            have G5 := Lib.hid (among_i32 (c := k5) HB.out.m5 E5.out (by rw [hn.out.2.2.2.2.2.1]; exact lz.out))
            rw [hn.out.2.2.2.2.2.1] at G5
            have Q6 := Lib.hid (least_i64_b (c := k6) HB.out.m6 trivial (by rw [hn.out.2.2.2.2.2.2]; exact lz.out))
            have B6 := Lib.hid (least_low I8)
            have E6 : Hid (least ltI 0 I8 ∈ I8 ∨ (I8 = [] ∧ least ltI 0 I8 = 0)) := Lib.hid (by
              by_cases e : I8 = []
              · exact .inr ⟨e, by rw [e]; rfl⟩
              · exact .inl (least_mem _ _ _ e))
            rw [hn.out.2.2.2.2.2.2, hfl.out] at Q6
            generalize least ltI 0 I8 = m6 at *
            have G6 := Lib.hid (among_i64 (c := k6) HB.out.m6 E6.out (by rw [hn.out.2.2.2.2.2.2]; exact lz.out))
            rw [hn.out.2.2.2.2.2.2] at G6
            go_wp2_with fail
            refine Q3.out.mono ?_
            rintro _ _ ⟨rfl, rfl⟩
            go_wp2_with fail
            refine Q4.out.mono ?_
            rintro _ _ ⟨rfl, rfl⟩
            go_wp2_with fail
            refine Q5.out.mono ?_
            rintro _ _ ⟨rfl, rfl⟩
            go_wp2_with fail
            refine Q6.out.mono ?_
            rintro _ _ ⟨rfl, rfl⟩
            go_wp2
            go_loopw [31] (fun iv wx => ∃ (i : Nat), i ≤ l.length ∧ iv = .int .i64 i ∧ wx = wr) (fun iv _ => l.length - (intOf iv).toNat)
            case atStart => exact ⟨0, by omega, rfl, rfl⟩
            case round =>
              obtain ⟨i, hi, rfl, rfl⟩ := hrel
              by_cases hil : i < l.length
              · have hii : (i : Int) < (l.length : Int) := by omega
                have hl3 : i < I1.length := by rw [hn.out.2.2.2.1]; exact hil
                obtain ⟨ad3, e3, c3⟩ := HB.out.m3 i hl3
                have b3 : decide ((I1[i]'hl3) < m3) = false := B3.out _ (List.getElem_mem hl3)
                subst e3
                generalize I1[i]'hl3 = y1 at *
                have hl4 : i < I2.length := by rw [hn.out.2.2.2.2.1]; exact hil
                obtain ⟨ad4, e4, c4⟩ := HB.out.m4 i hl4
                have b4 : decide ((I2[i]'hl4) < m4) = false := B4.out _ (List.getElem_mem hl4)
                subst e4
                generalize I2[i]'hl4 = y2 at *
                have hl5 : i < I4.length := by rw [hn.out.2.2.2.2.2.1]; exact hil
                obtain ⟨ad5, e5, c5⟩ := HB.out.m5 i hl5
                have b5 : decide ((I4[i]'hl5) < m5) = false := B5.out _ (List.getElem_mem hl5)
                subst e5
                generalize I4[i]'hl5 = y4 at *
                have hl6 : i < I8.length := by rw [hn.out.2.2.2.2.2.2]; exact hil
                obtain ⟨ad6, e6, c6⟩ := HB.out.m6 i hl6
                have b6 : decide ((I8[i]'hl6) < m6) = false := B6.out _ (List.getElem_mem hl6)
                subst e6
                generalize I8[i]'hl6 = y8 at *
                go_wp2
                go_roundw
                case rel => exact ⟨i + 1, by omega, by simp, by first | rfl | trivial⟩
                case measure => simp [intOf]; omega
              · obtain rfl : i = l.length := by omega
                have FF := Lib.hid HB.out.fr
                go_wp2_with fail
                refine G3.out.mono ?_
                rintro _ _ ⟨rfl, rfl⟩
                go_wp2_with fail
                refine G4.out.mono ?_
                rintro _ _ ⟨rfl, rfl⟩
                go_wp2_with fail
                refine G5.out.mono ?_
                rintro _ _ ⟨rfl, rfl⟩
                go_wp2_with fail
                refine G6.out.mono ?_
                rintro _ _ ⟨rfl, rfl⟩
                go_wp2_with fail
                refine (known_any _).mono ?_
                rintro _ _ ⟨rfl, rfl⟩
                go_wp2
                go_ret
                exact ⟨rfl, FF.out⟩
end Go.Proofs.Ytconppelbjjkjaa
