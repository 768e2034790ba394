/- known, by contract. -/
import Derived.Test.YtkjeobcfaolcaaaDoorIxK
namespace Go.Proofs.YtkjeobcfaolcaaaDoor
open Go.RowKit
set_option maxHeartbeats 4000000
set_option linter.unusedVariables false
set_option linter.unusedSimpArgs false

set_option maxRecDepth 100000 in
theorem known_b {w : World} (hT : Tab w) : Calls Tryd.prog 12 #[] w fun e w' => e = .returned (.bool true) ∧ Below w.heap.size w w' := by
  have ht1 := hT.lt
  go_enter Tryd.func12, Tryd.ntmps12
  go_wp2_with fail
  refine (newS_b w).mono ?_
  rintro _ w0 ⟨t, g, rfl, tge, gge, b0, g0, bel⟩
  have S0 := Lib.hid (free8_slt g0)
  have T0 := Lib.hid (hT.keep (bel.block 1 ht1))
  have B0 := Lib.hid b0
  have M0 : Hid (Fr (fun _ => False) w (fun b => b = t ∨ b = g ∨ own (.slice none 0 0) b) w0) := Lib.hid ((Fr.of_below bel (Nat.le_refl _) (fun _ => False)).into fun k hk => .inr (.inr (hk.elim (fun h => h ▸ tge) fun hk => hk.elim (fun h => h ▸ gge) fun h => by simp [own, Value.ownBlock] at h)))
  have HT := Lib.hid hT
  clear b0 g0 bel hT tge gge
  go_wp2_with fail
  refine (putS_new (k := 3) (l := []) (key := 0) T0.out B0.out S0.out (Wl.nil _) (by omega) (by omega) (by omega) look_a (by omega) rfl (by simp) (by simp) (by simp)).mono ?_
  rintro _ w1 ⟨rfl, A1, c1, b1, s1, v1, m1⟩
  have M1 := Lib.hid (M0.out.trans m1)
  have T1 : Hid (Tab w1) := Lib.hid (HT.out.keep (M1.out.block 1 ht1 fun h => h))
  have B1 := Lib.hid b1
  have S1 : Hid (Slt w1 g (2 ^ 3) U1 K1 (fun i => if i = 0 then .string ⟨#[97]⟩ else X0 i)) := Lib.hid s1
  have V1 := Lib.hid v1
  clear M0 T0 B0 S0 b1 s1 v1 m1
  go_wp2_with fail
  refine (putS_new (k := 3) (l := [0]) (key := 5) T1.out B1.out S1.out V1.out (by omega) (by omega) (by omega) look_b (by omega) rfl (by simp) (by simp) (by simp)).mono ?_
  rintro _ w2 ⟨rfl, A2, c2, b2, s2, v2, m2⟩
  have M2 := Lib.hid (M1.out.trans m2)
  have T2 : Hid (Tab w2) := Lib.hid (HT.out.keep (M2.out.block 1 ht1 fun h => h))
  have B2 := Lib.hid b2
  have S2 : Hid (Slt w2 g (2 ^ 3) U2 K2 (fun i => if i = 1 then .string ⟨#[98]⟩ else if i = 0 then .string ⟨#[97]⟩ else X0 i)) := Lib.hid s2
  clear M1 T1 B1 S1 V1 b2 s2 v2 m2
  go_wp2_with fail
  refine (putS_had (k := 3) (key := 0) (x := ⟨#[97]⟩) T2.out B2.out S2.out (by omega) (by omega) (by omega) look_c (by omega) rfl rfl).mono ?_
  rintro _ w3 ⟨rfl, hw3⟩
  have hgt : t ≠ g := by obtain ⟨cs, hb, _⟩ := S2.out; exact Blk.ne_ B2.out hb (by decide)
  have M3 := Lib.hid ((M2.out.alloc (.cells #[.pointer (some ⟨t, 0, none⟩)] 34)).set (p := ⟨g, 0 * 3 + 2, none⟩) (.inl (.inr (.inl rfl))) (.string ⟨#[99]⟩))
  have B3 := (B2.out.alloc (.cells #[.pointer (some ⟨t, 0, none⟩)] 34)).far (p := ⟨g, 0 * 3 + 2, none⟩) hgt (.string ⟨#[99]⟩)
  have S3 : SlotsAt ((w2.alloc (.cells #[.pointer (some ⟨t, 0, none⟩)] 34)).setCell ⟨g, 0 * 3 + 2, none⟩ (.string ⟨#[99]⟩)) g (2 ^ 3) U2 K2 := by
    obtain ⟨cs, hb, hc⟩ := S2.out
    have hb' := (hb.alloc (.cells #[.pointer (some ⟨t, 0, none⟩)] 34)).set_ (0 * 3 + 2) (.string ⟨#[99]⟩)
    intro i hi
    obtain ⟨h1, h2, _⟩ := hc i hi
    rw [Blk.cell hb', Blk.cell hb']
    simp only [Array.getElem?_setIfInBounds, show ¬ (0 * 3 + 2 = i * 3) by omega, show ¬ (0 * 3 + 2 = i * 3 + 1) by omega, if_false]
    exact ⟨h1, h2⟩
  rw [← hw3] at M3 B3 S3
  have T3 := HT.out.keep (M3.out.block 1 ht1 fun h => h)
  have SL : Hid (Calls Tryd.prog 24 #[.pointer (some ⟨t, 0, none⟩)] w3 fun e w' => e = .returned (.int .i64 8) ∧ w3 = w') := Lib.hid (slotsS_b (c1 := .slice none 0 0) (B3.cell 0))
  obtain ⟨jf, hlf⟩ := look_f
  have AA : Hid (Calls Tryd.prog 22 #[.pointer (some ⟨t, 0, none⟩), .int .u64 0] w3 fun e w' => e = .returned (.int .i64 1) ∧ w3 = w') := Lib.hid (askedS_b (k := 3) T3 B3 S3 (by omega) (by omega) (by omega) look_c)
  have AB : Hid (Calls Tryd.prog 22 #[.pointer (some ⟨t, 0, none⟩), .int .u64 5] w3 fun e w' => e = .returned (.int .i64 2) ∧ w3 = w') := Lib.hid (askedS_b (k := 3) T3 B3 S3 (by omega) (by omega) (by omega) look_d)
  have AC : Hid (Calls Tryd.prog 22 #[.pointer (some ⟨t, 0, none⟩), .int .u64 2] w3 fun e w' => e = .returned (.int .i64 2) ∧ w3 = w') := Lib.hid (askedS_b (k := 3) T3 B3 S3 (by omega) (by omega) (by omega) look_e)
  have AD : Hid (Calls Tryd.prog 22 #[.pointer (some ⟨t, 0, none⟩), .int .u64 8] w3 fun e w' => e = .returned (.int .i64 1) ∧ w3 = w') := Lib.hid (askedS_b (k := 3) T3 B3 S3 (by omega) (by omega) (by omega) hlf)
  clear M2 T2 B2 S2 hw3 T3 B3 S3 hlf HT
  go_wp2_with fail
  refine (num_b).mono ?_
  rintro _ w4 ⟨rfl, rfl⟩
  go_wp2_with fail
  refine (num_b).mono ?_
  rintro _ w5 ⟨rfl, rfl⟩
  go_wp2_with fail
  refine (SL.out).mono ?_
  rintro _ w6 ⟨rfl, rfl⟩
  go_wp2_with fail
  refine (AA.out).mono ?_
  rintro _ w7 ⟨rfl, rfl⟩
  go_wp2_with fail
  refine (AB.out).mono ?_
  rintro _ w8 ⟨rfl, rfl⟩
  go_wp2_with fail
  refine (AC.out).mono ?_
  rintro _ w9 ⟨rfl, rfl⟩
  go_wp2_with fail
  refine (AD.out).mono ?_
  rintro _ w10 ⟨rfl, rfl⟩
  go_wp2
  go_ret
  exact ⟨rfl, M3.out.below (fun _ h => h.elim) (Nat.le_refl _)⟩
end Go.Proofs.YtkjeobcfaolcaaaDoor
