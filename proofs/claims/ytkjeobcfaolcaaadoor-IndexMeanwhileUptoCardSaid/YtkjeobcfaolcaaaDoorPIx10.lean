/- The document's table: Take, by contract. -/
import Derived.Test.YtkjeobcfaolcaaaDoorPIx8
import Derived.Test.YtkjeobcfaolcaaaDoorPIx9
namespace Go.Proofs.YtkjeobcfaolcaaaDoor
open Go.RowKit
set_option maxHeartbeats 8000000
set_option linter.unusedVariables false
set_option linter.unusedSimpArgs false

set_option maxRecDepth 100000 in
theorem takeR_no {t g k j m cz : Nat} {key : Int} {s : St Int} {c1 : Value} {w : World} (ht : Blk w t 68 #[.slice (some ⟨g, 0, none⟩) (2 ^ k : Nat) cz, c1])
    (hS : HolR w g (2 ^ k) s) (h1 : 3 ≤ k) (h2 : k ≤ 43) (hl : lgo s.U s.K key (2 ^ k) (2 ^ k) (homeOf key k).toNat 1 = some (j, m)) (hj : j < 2 ^ k) (hu : s.U j = false) :
    Calls Tryd.prog 63 #[.pointer (some ⟨t, 0, none⟩), .int .u64 key] w fun e w' => e = .returned (.tuple #[.int .u64 0, .bool false]) ∧ w = w' := by
  have C := Lib.hid (lookR_b ht (SltR.at_ hS) h1 h2 (Nat.le_trans (Nat.pow_le_pow_right (by omega) h2) (by decide)) hl)
  have d0 : w.cell? ⟨t, 0, none⟩ = some (.slice (some ⟨g, 0, none⟩) (2 ^ k : Nat) cz) := ht.cell 0
  have dU := (SltR.at_ hS j hj).1
  rw [hu] at dU
  have hjl : decide (j < 2 ^ k) = true := decide_eq_true hj
  clear ht hS hl h1 h2 hu
  generalize 2 ^ k = sl at *
  go_enter Tryd.func63, Tryd.ntmps63
  go_wp2_with fail
  refine C.out.mono ?_
  rintro _ w2 ⟨rfl, rfl⟩
  go_wp2
  go_ret2
  exact ⟨rfl, rfl⟩
set_option maxRecDepth 100000 in
theorem takeR_yes {t g k cz : Nat} {key : Int} {s : St Int} {A : Option Addr} {cp : Nat} {l : List Int} {w : World} (ht : Blk w t 68 #[.slice (some ⟨g, 0, none⟩) (2 ^ k : Nat) cz, .slice A l.length cp])
    (hS : HolR w g (2 ^ k) s) (hv : Wl w (.slice A l.length cp) l) (hI : s.Inv k l) (h1 : 3 ≤ k) (h2 : k ≤ 43) (hk : key ∈ l) (hlen : l.length * 8 ≤ 140737488355328) :
    Calls Tryd.prog 63 #[.pointer (some ⟨t, 0, none⟩), .int .u64 key] w fun e w' => e = .returned (.tuple #[.int .u64 (s.X (s.slot k key)), .bool true]) ∧ ∃ A' cp',
      Blk w' t 68 #[.slice (some ⟨g, 0, none⟩) (2 ^ k : Nat) cz, .slice A' (l.filter (· != key)).length cp'] ∧ HolR w' g (2 ^ k) (s.take k 0 key) ∧ Wl w' (.slice A' (l.filter (· != key)).length cp') (l.filter (· != key)) ∧
        Fr (fun b => b = t ∨ b = g ∨ own (.slice A l.length cp) b) w (fun b => b = t ∨ b = g ∨ own (.slice A' (l.filter (· != key)).length cp') b) w' := by
  have hsq : (2 : Nat) ^ k ≤ 2 ^ 43 := Nat.pow_le_pow_right (by omega) h2
  have hn2 : 2 ≤ 2 ^ k := Nat.le_trans (by decide) (eight h1)
  obtain ⟨hl0, hj0, _, _, hio⟩ := TInv.look hI (hmk_lt (by omega) (by omega)) key
  obtain ⟨hu0, hk0⟩ : s.U (s.slot k key) = true ∧ s.K (s.slot k key) = key := by
    rcases hio with ⟨_, h, h'⟩ | ⟨h, _⟩
    · exact ⟨h, h'⟩
    · exact (h hk).elim
  replace hj0 : s.slot k key < 2 ^ k := hj0
  obtain ⟨en, hen, hue⟩ := TInv.free hI
  have hh0 := Lib.hid (TInv.hole (z := (0 : Int)) (s := s) hI hj0 hu0 hk0 hn2 hen hue)
  have htk : Hid (s.take k 0 key = St.shift (2 ^ k) (hmk k) 0 (2 ^ k) (s.clear (s.slot k key) 0) (s.slot k key) ((s.slot k key + 1) % 2 ^ k)) := Lib.hid rfl
  have C : Hid (Calls Tryd.prog 71 #[.pointer (some ⟨t, 0, none⟩), .int .u64 key] w fun e w' => e = .returned (.tuple #[.int .i64 (s.slot k key : Int), .int .i64 (s.asked k key : Int)]) ∧ w = w') := Lib.hid (lookR_b ht (SltR.at_ hS) h1 h2 (Nat.le_trans hsq (by decide)) hl0)
  have AH : Hid (∀ W c1 x (f a : Nat), Blk W t 68 #[.slice (some ⟨g, 0, none⟩) (2 ^ k : Nat) cz, c1] → f < 2 ^ k → a < 2 ^ k → Calls Tryd.prog 81 #[.pointer (some ⟨t, 0, none⟩), .int .u64 x, .int .i64 (f : Int), .int .i64 (a : Int)] W fun e w' => e = .returned (.bool (decide (dst (2 ^ k) (hmk k x) f < dst (2 ^ k) (hmk k x) a))) ∧ W = w') := Lib.hid fun W c1 x f a hb h3 h4 => ahead_b hb h1 h2 h3 h4
  have BH : Hid (∀ W c1 (i : Nat), Blk W t 68 #[.slice (some ⟨g, 0, none⟩) (2 ^ k : Nat) cz, c1] → i < 2 ^ k → Calls Tryd.prog 80 #[.pointer (some ⟨t, 0, none⟩), .int .i64 (i : Int)] W fun e w' => e = .returned (.int .i64 (((i + 1) % 2 ^ k : Nat) : Int)) ∧ W = w') := Lib.hid fun W c1 i hb h3 => behind_b hb h3 (by omega)
  have HB : Hid (∀ x, hmk k x < 2 ^ k) := Lib.hid (hmk_lt (by omega) (by omega))
  have hdl : Hid (dst (2 ^ k) ((s.slot k key + 1) % 2 ^ k) en < 2 ^ k) := Lib.hid (dst_lt (Nat.mod_lt _ (by omega)) hen)
  have B0 := Lib.hid ht
  have S0 := Lib.hid hS
  have V0 := Lib.hid hv
  have hgt : t ≠ g := by obtain ⟨cs, hb, _⟩ := hS; exact Blk.ne_ ht hb (by decide)
  have hvt : ¬ own (.slice A l.length cp) t := Rowv.ne_ hv ht (by decide)
  have hvg : ¬ own (.slice A l.length cp) g := by obtain ⟨cs, hb, _⟩ := hS; exact Rowv.ne_ hv hb (by decide)
  have htl := ht.lt
  have hgl := SltR.lt hS
  clear ht hS hv hl0 hio hk0 hI
  obtain ⟨sl, hsl⟩ : ∃ sl, Hid (sl = 2 ^ k) := ⟨_, Lib.hid rfl⟩
  rw [← hsl.out] at hsq hn2 hj0 hen hh0 htk AH BH HB hdl B0 S0
  have hl1 : (l.length : Int) ≤ 17592186044416 := by omega
  have hl2 : (sl : Int) ≤ 8796093022208 := by omega
  rw [← hsl.out]
  have dU := (SltR.at_ S0.out _ hj0).1
  rw [hu0] at dU
  have dK := (SltR.at_ S0.out _ hj0).2
  have dX := (SltR.val S0.out hj0).1
  generalize s.X (s.slot k key) = x0 at *
  generalize s.slot k key = j0 at *
  generalize s.asked k key = m0 at *
  generalize hmk k = hm at *
  generalize s.take k 0 key = fin at *
  clear hsl h1 h2 hue hu0
  have d0 : w.cell? ⟨t, 0, none⟩ = some (.slice (some ⟨g, 0, none⟩) sl cz) := B0.out.cell 0
  have hj0l : decide (j0 < sl) = true := decide_eq_true hj0
  obtain ⟨w1, hw1⟩ : ∃ u, Hid (u = ((w.setCell ⟨g, j0 * 3, none⟩ (.bool false)).setCell ⟨g, j0 * 3 + 1, none⟩ (.int .u64 0)).setCell ⟨g, j0 * 3 + 2, none⟩ (.int .u64 0)) := ⟨_, Lib.hid rfl⟩
  have S1 : Hid (HolR w1 g sl (s.clear j0 0)) := Lib.hid (by rw [hw1.out]; exact HolR.clear S0.out hj0)
  have M1 : Hid (Fr (fun b => b = g) w (fun b => b = g) w1) := Lib.hid (by rw [hw1.out]; exact (((Fr.refl (fun b => b = g) w).set (p := ⟨g, _, none⟩) (.inl rfl) _).set (p := ⟨g, _, none⟩) (.inl rfl) _).set (p := ⟨g, _, none⟩) (.inl rfl) _)
  have B1 := Lib.hid (M1.out.blk B0.out hgt)
  have BH1 := Lib.hid (BH.out w1 _ j0 B1.out hj0)
  have dz := (SltR.val S0.out hj0).2
  have z0 := dz (j0 * 3)
  have z1 := dz (j0 * 3 + 1)
  have z2 := dz (j0 * 3 + 2)
  have hj0i : (j0 : Int) ≤ 8796093022208 := by omega
  clear dz S0
  go_enter Tryd.func63, Tryd.ntmps63
  go_wp2_with fail
  refine C.out.mono ?_
  rintro _ w3 ⟨rfl, rfl⟩
  clear C
  go_wp2_with fail
  rw [← hw1.out]
  refine BH1.out.mono ?_
  rintro _ w4 ⟨rfl, rfl⟩
  clear hw1 BH1 dU dK dX z0 z1 z2 d0
  go_wp2
  go_loopw [9, 10] (fun f kk wr => ∃ (fn kn r : Nat) (s' : St Int), f = .int .i64 fn ∧ kk = .int .i64 kn ∧ fn < sl ∧ kn < sl ∧ dst sl kn en < r ∧ Hid (HolR wr g sl s' ∧ Sh sl hm s' fn kn en (l.filter (· != key)) ∧ fin = St.shift sl hm 0 r s' fn kn ∧ Fr (fun b => b = g) w (fun b => b = g) wr)) (fun _ kk _ => dst sl (intOf kk).toNat en)
  case atStart => exact ⟨j0, (j0 + 1) % sl, sl, s.clear j0 0, rfl, rfl, hj0, Nat.mod_lt _ (by omega), hdl.out, Lib.hid ⟨S1.out, hh0.out, htk.out, M1.out⟩⟩
  case round =>
    clear S1 M1 hh0 htk hdl B1 hj0l hj0i
    obtain ⟨fn, kn, r, s', rfl, rfl, hfn, hkn, hr, HH⟩ := hrel
    obtain ⟨HS, HSh, hfin, HF⟩ := HH.out
    have B := Lib.hid (HF.blk B0.out hgt)
    have dt : wr.cell? ⟨t, 0, none⟩ = some (.slice (some ⟨g, 0, none⟩) sl cz) := B.out.cell 0
    have kU := (SltR.at_ HS _ hkn).1
    have kK := (SltR.at_ HS _ hkn).2
    have kX := (SltR.val HS hkn).1
    have kz := (SltR.val HS hkn).2
    have fU := (SltR.at_ HS _ hfn).1
    have fK := (SltR.at_ HS _ hfn).2
    have fX := (SltR.val HS hfn).1
    have hfl : decide (fn < sl) = true := decide_eq_true hfn
    have hkl : decide (kn < sl) = true := decide_eq_true hkn
    by_cases hu : s'.U kn = true
    · rw [hu] at kU
      have CA := Lib.hid (AH.out wr _ (s'.K kn) fn kn B.out hfn hkn)
      have hne := HSh.ne
      have hstep : Hid (fin = (if dst sl (hm (s'.K kn)) fn < dst sl (hm (s'.K kn)) kn then St.shift sl hm 0 (r - 1) (s'.move fn kn 0) kn ((kn + 1) % sl) else St.shift sl hm 0 (r - 1) s' fn ((kn + 1) % sl))) := Lib.hid (by
        rw [hfin]
        obtain ⟨r', rfl⟩ : ∃ r', r = r' + 1 := ⟨r - 1, by omega⟩
        rw [St.shift, if_pos hu]
        rfl)
      have hke : kn ≠ en := fun e => by have := HSh.end_; rw [← e, hu] at this; cases this
      obtain ⟨qn, hqn, hq⟩ := nxq hkn
      have hdq : dst sl qn en < dst sl kn en := by
        unfold dst
        split <;> (split <;> omega)
      have hqs : qn < sl := by rcases hq with ⟨_, h⟩ | ⟨h, h'⟩ <;> omega
      replace hfin := Lib.hid hfin
      replace HS := Lib.hid HS
      replace HSh := Lib.hid HSh
      replace HF := Lib.hid HF
      replace hu := Lib.hid hu
      replace hqn := Lib.hid hqn
      replace hq := Lib.hid hq
      replace hdq := Lib.hid hdq
      have kz0 := kz (kn * 3)
      have kz1 := kz (kn * 3 + 1)
      have kz2 := kz (kn * 3 + 2)
      have fz0 := kz (fn * 3)
      have fz1 := kz (fn * 3 + 1)
      have fz2 := kz (fn * 3 + 2)
      clear kz
      by_cases hc : dst sl (hm (s'.K kn)) fn < dst sl (hm (s'.K kn)) kn
      · rw [decide_eq_true hc] at CA
        go_wp2_with fail
        refine CA.out.mono ?_
        rintro _ w5 ⟨rfl, rfl⟩
        go_wp2_with fail
        refine wp_region_mix (fun _ => True) [3, 3, 3, 1, 3, 3, 3, 3, 1, 3, 3, 1, 3, 2] (List.range 14) (by kernel_rfl) (by kernel_rfl) (fun _ _ h => h) trivial ?_
        repeat ((first | refine wpMix_pure rfl rfl (fun K hK => ?_) | refine wpMix_loc rfl rfl (fun K hK => ?_) | refine wpMix_any rfl rfl (fun K hK => ?_)); go_simp; refine hK _ _ ?_; clear hK K)
        refine wpMix_loud rfl rfl (fun n2 K hK => ?_)
        go_wp2
        refine hK _ _ (fun _ => trivial) ?_; clear hK K
        refine wpMix_nil (fun n3 => ?_)
        obtain ⟨w6, hw6⟩ : ∃ u, Hid (u = (((((wr.drewN (1 + n2)).setCell ⟨g, fn * 3, none⟩ (.bool true)).setCell ⟨g, fn * 3 + 1, none⟩ (.int .u64 (s'.K kn))).setCell ⟨g, fn * 3 + 2, none⟩ (.int .u64 (s'.X kn))).drewN n3)) := ⟨_, Lib.hid rfl⟩
        have S6 : Hid (HolR w6 g sl (s'.set fn (s'.K kn) (s'.X kn))) := Lib.hid (by rw [hw6.out]; exact SltR.drewN (HolR.set (SltR.drewN HS.out (1 + n2)) hfn _ _) n3)
        have F6 : Hid (Fr (fun b => b = g) w (fun b => b = g) w6) := Lib.hid (by rw [hw6.out]; exact ((((HF.out.drewN (1 + n2)).set (p := ⟨g, fn * 3, none⟩) (.inl rfl) (.bool true)).set (p := ⟨g, fn * 3 + 1, none⟩) (.inl rfl) (.int .u64 (s'.K kn))).set (p := ⟨g, fn * 3 + 2, none⟩) (.inl rfl) (.int .u64 (s'.X kn))).drewN n3)
        rw [← hw6.out]
        clear fU fK fX kU kK kX kz0 kz1 kz2 fz0 fz1 fz2 dt hw6
        have B6 := Lib.hid (F6.out.blk B0.out hgt)
        have d6 : w6.cell? ⟨t, 0, none⟩ = some (.slice (some ⟨g, 0, none⟩) sl cz) := B6.out.cell 0
        have k0 := (SltR.at_ S6.out _ hkn).1
        have k1 := (SltR.at_ S6.out _ hkn).2
        have k2 := (SltR.val S6.out hkn).1
        have kz := (SltR.val S6.out hkn).2
        have kz0 := kz (kn * 3)
        have kz1 := kz (kn * 3 + 1)
        have kz2 := kz (kn * 3 + 2)
        clear kz
        obtain ⟨w7, hw7⟩ : ∃ u, Hid (u = ((w6.setCell ⟨g, kn * 3, none⟩ (.bool false)).setCell ⟨g, kn * 3 + 1, none⟩ (.int .u64 0)).setCell ⟨g, kn * 3 + 2, none⟩ (.int .u64 0)) := ⟨_, Lib.hid rfl⟩
        have S7 : Hid (HolR w7 g sl (s'.move fn kn 0)) := Lib.hid (by rw [hw7.out]; exact HolR.clear S6.out hkn)
        have F7 : Hid (Fr (fun b => b = g) w (fun b => b = g) w7) := Lib.hid (by rw [hw7.out]; exact ((F6.out.set (p := ⟨g, kn * 3, none⟩) (.inl rfl) (.bool false)).set (p := ⟨g, kn * 3 + 1, none⟩) (.inl rfl) (.int .u64 0)).set (p := ⟨g, kn * 3 + 2, none⟩) (.inl rfl) (.int .u64 0))
        have CB := Lib.hid (BH.out w7 _ kn (F7.out.blk B0.out hgt) hkn)
        rw [hqn.out] at CB
        go_wp2_with fail
        rw [← hw7.out]
        refine CB.out.mono ?_
        rintro _ w8 ⟨rfl, rfl⟩
        go_wp2
        have e1 := HSh.out.moved (z := (0 : Int)) HB.out hu.out hc
        rw [hqn.out] at e1
        have e2 := hstep.out
        rw [if_pos hc, hqn.out] at e2
        refine ⟨⟨kn, qn, r - 1, s'.move fn kn 0, rfl, rfl, hkn, hqs, by have := hdq.out; omega, Lib.hid ⟨S7.out, e1, e2, F7.out⟩⟩, ?_⟩
        have := hdq.out
        simpa [intOf] using this
      · rw [decide_eq_false hc] at CA
        have CB := Lib.hid (BH.out wr _ kn B.out hkn)
        rw [hqn.out] at CB
        go_wp2_with fail
        refine CA.out.mono ?_
        rintro _ w5 ⟨rfl, rfl⟩
        go_wp2_with fail
        refine CB.out.mono ?_
        rintro _ w5 ⟨rfl, rfl⟩
        go_wp2
        have e1 := HSh.out.stay HB.out hu.out hc
        rw [hqn.out] at e1
        have e2 := hstep.out
        rw [if_neg hc, hqn.out] at e2
        refine ⟨⟨fn, qn, r - 1, s', rfl, rfl, hfn, hqs, by have := hdq.out; omega, Lib.hid ⟨HS.out, e1, e2, HF.out⟩⟩, ?_⟩
        have := hdq.out
        simpa [intOf] using this
    · have hu : s'.U kn = false := by simpa using hu
      rw [hu] at kU
      have hfs : fin = s' := by
        rw [hfin]
        obtain ⟨r', rfl⟩ : ∃ r', r = r' + 1 := ⟨r - 1, by omega⟩
        rw [St.shift, if_neg (by rw [hu]; decide)]
      replace hfs := Lib.hid hfs
      have V := Lib.hid (V0.out.frs HF fun j hj => by intro e; exact hvg (e ▸ hj))
      have d1 : wr.cell? ⟨t, 1, none⟩ = some (.slice A l.length cp) := B.out.cell 1
      replace HS := Lib.hid HS
      replace HF := Lib.hid HF
      clear fU fK fX kz hfin HSh AH BH HB
      generalize wr = wo at *
      go_wp2
      go_loopw [11, 12] (fun rv kv wr => ∃ (m : Nat) (A1 : Option Addr) (c1 : Nat), m ≤ l.length ∧ kv = .int .i64 m ∧ rv = .slice A1 ((l.take m).filter (· != key)).length c1 ∧ Hid (Wl wr (.slice A1 ((l.take m).filter (· != key)).length c1) ((l.take m).filter (· != key)) ∧ Fr (fun _ => False) wo (own (.slice A1 ((l.take m).filter (· != key)).length c1)) wr)) (fun _ kv _ => l.length - (intOf kv).toNat)
      case atStart => exact ⟨0, none, 0, by omega, rfl, rfl, Lib.hid ⟨Wl.nil _, (Fr.refl _ _).into fun j hj => (own_nil _ _ _ hj).elim⟩⟩
      case round =>
        clear kU kK kX dt d1
        obtain ⟨m, A1, c1, hm1, rfl, rfl, HQ⟩ := hrel
        have Bq := Lib.hid (HQ.out.2.blk B.out fun h => h)
        have q1 : wr.cell? ⟨t, 1, none⟩ = some (.slice A l.length cp) := Bq.out.cell 1
        by_cases hml : m < l.length
        · obtain ⟨ga, off, rfl, hc⟩ := (V.out.frs HQ.out.2 fun _ _ h => h).cell hml
          have hcm := hc m hml
          have htk : l.take (m + 1) = l.take m ++ [l[m]] := by rw [List.take_add_one]; simp [hml]
          have hle : ((l.take m).filter (· != key)).length ≤ m := by
            have := List.length_filter_le (· != key) (l.take m)
            rw [List.length_take] at this
            omega
          generalize l[m] = x at *
          by_cases hx : x = key
          · have hfe : (l.take (m + 1)).filter (· != key) = (l.take m).filter (· != key) := by rw [htk, List.filter_append]; simp [hx]
            replace hfe := Lib.hid hfe
            have hne : (x != key) = false := by simp [hx]
            clear htk hx hc
            go_wp2
            go_roundw
            case rel => exact ⟨m + 1, A1, c1, by omega, by simp, by rw [hfe.out], Lib.hid (by rw [hfe.out]; exact HQ.out)⟩
            case measure => simp [intOf]; omega
          · have hfe : (l.take (m + 1)).filter (· != key) = (l.take m).filter (· != key) ++ [x] := by rw [htk, List.filter_append]; simp [hx]
            replace hfe := Lib.hid hfe
            have hne : (x != key) = true := by simpa using hx
            clear htk hx hc
            have HQ1 := Lib.hid HQ.out.1
            have HQ2 := Lib.hid HQ.out.2
            have hlx := Lib.hid (show (((l.take m).filter (· != key)).length + 1) * 8 ≤ 140737488355328 by omega)
            go_wp2_with (at_builtin; refine wpList_word wr rfl (.tmp 111) (.tmp 119) rfl (.slice A1 ((l.take m).filter (· != key)).length c1) ((l.take m).filter (· != key)) x rfl HQ1.out rfl hlx.out ?_; intro A3 c3 w3 hc3 hv3 hm3; have V3 := Lib.hid hv3; have M3 := Lib.hid ((HQ2.out.beside hm3 fun j hj => (HQ2.out.new j hj).elim (fun h => h.elim) id)); have O3 := Lib.hid hm3.new; clear hv3 hm3)
            go_roundw
            case rel =>
              have hl3 : ((l.take (m + 1)).filter (· != key)).length = ((l.take m).filter (· != key)).length + 1 := by rw [hfe.out]; simp
              refine ⟨m + 1, A3, c3, by omega, by simp, by rw [hl3], Lib.hid ?_⟩
              rw [hl3, hfe.out]
              exact ⟨V3.out, M3.out.into fun j hj => (O3.out j hj).imp id fun h => .inr (Nat.le_trans HQ2.out.size h)⟩
            case measure => simp [intOf]; omega
        · obtain rfl : m = l.length := by omega
          have hfe : (l.take l.length).filter (· != key) = l.filter (· != key) := by rw [List.take_length]
          have HV := HQ.out.1
          have HN := HQ.out.2
          rw [hfe] at HV HN
          have z1 := Bq.out.frozen 1
          have hvt2 : ¬ own (.slice A1 (l.filter (· != key)).length c1) t := fun h => (HN.new t h).elim (fun h => h.elim) fun h => by have := HF.out.size; omega
          replace HV := Lib.hid HV
          replace HN := Lib.hid HN
          replace hfe := Lib.hid hfe
          go_wp2
          go_ret2
          refine ⟨rfl, A1, c1, Bq.out.set_ 1 _, ?_, HV.out.set (p := ⟨t, 1, none⟩) hvt2 _, ?_⟩
          · rw [hfs.out]
            exact SltR.far (SltR.fr HS.out HN.out fun h => h) (p := ⟨t, 1, none⟩) hgt.symm _
          · have e1 : Fr (fun b => b = t ∨ b = g ∨ own (.slice A l.length cp) b) w (fun b => b = g) wo := (HF.out.wide fun j hj => .inr (.inl hj))
            have e2 := (e1.beside HN.out fun j hj => hj.elim)
            have e3 := e2.set (p := ⟨t, 1, none⟩) (.inr (.inl (.inl rfl))) (.slice A1 (l.filter (· != key)).length c1)
            refine e3.into fun j hj => ?_
            rcases hj with h | h | h
            · exact .inr (.inl (.inl h))
            · exact .inl h
            · exact .inr (.inr ((HN.out.new j h).elim (fun h => h.elim) fun h => Nat.le_trans HF.out.size h))
end Go.Proofs.YtkjeobcfaolcaaaDoor
/- A table, whole: its calls by contract (a table of uint64). -/
namespace Go.Proofs.YtkjeobcfaolcaaaDoor
open Go.RowKit Go.Shelf
set_option maxHeartbeats 4000000
set_option linter.unusedVariables false
set_option linter.unusedSimpArgs false

/-- the table at t; its blocks: F -/
def TbW (w : World) (t : Nat) (F : Nat → Prop) (T : Tbl Int) : Prop := ∃ g cz A cp, F = (fun b => b = t ∨ b = g ∨ own (.slice A T.l.length cp) b) ∧ Blk w t 96 #[.slice (some ⟨g, 0, none⟩) (2 ^ T.k : Nat) cz, .slice A T.l.length cp] ∧
  HolW w g (2 ^ T.k) T.s ∧ Wl w (.slice A T.l.length cp) T.l ∧ T.Ok
theorem TbW.ok {w : World} {t : Nat} {F : Nat → Prop} {T : Tbl Int} (h : TbW w t F T) : T.Ok := by obtain ⟨_, _, _, _, _, _, _, _, h⟩ := h; exact h
theorem TbW.lt {w : World} {t : Nat} {F : Nat → Prop} {T : Tbl Int} (h : TbW w t F T) : ∀ b, F b → b < w.heap.size := by
  obtain ⟨g, cz, A, cp, rfl, hb, hs, hv, _⟩ := h
  rintro b (rfl | rfl | h)
  · exact hb.lt
  · exact SltW.lt hs
  · exact hv.lt b h
theorem TbW.fr {w w' : World} {t : Nat} {F G G' : Nat → Prop} {T : Tbl Int} (h : TbW w t F T) (hf : Fr G w G' w') (hG : ∀ b, F b → ¬ G b) : TbW w' t F T := by
  obtain ⟨g, cz, A, cp, rfl, hb, hs, hv, hok⟩ := h
  exact ⟨g, cz, A, cp, rfl, hf.blk hb (hG _ (.inl rfl)), SltW.fr hs hf (hG _ (.inr (.inl rfl))), hv.frs hf fun k hk => hG k (.inr (.inr hk)), hok⟩
theorem TbW.head {w : World} {t : Nat} {F : Nat → Prop} {T : Tbl Int} (h : TbW w t F T) : F t := by obtain ⟨g, cz, A, cp, rfl, _⟩ := h; exact .inl rfl
theorem TbW.drewN {w : World} {t : Nat} {F : Nat → Prop} {T : Tbl Int} (h : TbW w t F T) (n : Nat) : TbW (w.drewN n) t F T := h
def mk8W : Array Value := #[Value.bool false, Value.int .u64 0, Value.int .u64 0, Value.bool false, Value.int .u64 0, Value.int .u64 0, Value.bool false, Value.int .u64 0, Value.int .u64 0, Value.bool false, Value.int .u64 0, Value.int .u64 0, Value.bool false, Value.int .u64 0, Value.int .u64 0, Value.bool false, Value.int .u64 0, Value.int .u64 0, Value.bool false, Value.int .u64 0, Value.int .u64 0, Value.bool false, Value.int .u64 0, Value.int .u64 0]
theorem mk8W_run (w : World) : (Instr.makeSlice 94 (.int .i64 8) (.int .i64 8)).run Tryd.prog w = .ok (.slice (some ⟨w.heap.size, 0, none⟩) 8 8) (w.alloc (.cells mk8W 99)) := by kernel_rfl
theorem newW_tb (w : World) : Calls Tryd.prog 29 #[] w fun e w' => ∃ t F, e = .returned (.pointer (some ⟨t, 0, none⟩)) ∧ TbW w' t F (Tbl.new 0) ∧ Fr (fun _ => False) w F w' := by
  have hmk := mk8W_run
  go_enter Tryd.func29, Tryd.ntmps29
  go_wp2
  go_ret
  have e1 : (w.alloc (.cells mk8W 99)).heap.size = w.heap.size + 1 := World.size_alloc ..
  have B1 := Blk.new w 99 mk8W
  have B2 := Blk.new (w.alloc (.cells mk8W 99)) 96 #[.slice (some ⟨w.heap.size, 0, none⟩) 8 8, .slice none 0 0]
  rw [e1] at B2
  refine ⟨_, _, rfl, ⟨w.heap.size, 8, none, 0, rfl, B2, ⟨mk8W, B1.alloc _, fun i hi => ?_⟩, Wl.nil _, Tbl.new_ok 0⟩, (((Fr.refl (fun _ => False) w).alloc _).alloc _).into fun k hk => .inr (.inr ?_)⟩
  · have hi8 : i < 8 := hi
    have : i = 0 ∨ i = 1 ∨ i = 2 ∨ i = 3 ∨ i = 4 ∨ i = 5 ∨ i = 6 ∨ i = 7 := by omega
    rcases this with rfl | rfl | rfl | rfl | rfl | rfl | rfl | rfl <;> exact ⟨rfl, rfl, rfl⟩
  · rcases hk with rfl | rfl | h
    · omega
    · omega
    · exact (own_nil _ _ _ h).elim
theorem putW_tb {w : World} {t : Nat} {F : Nat → Prop} {T : Tbl Int} {key : Int} {y : Int} (hT : Tab w) (h : TbW w t F T) (hk : T.k ≤ 42) (hlen : (T.l.length + 1) * 8 ≤ 140737488355328) (hby : 2 ^ T.k * 24 ≤ 140737488355328) (hgr : 3 * 2 ^ T.k < 4 * (T.l.length + 1) → T.k ≤ 41) :
    Calls Tryd.prog 57 #[.pointer (some ⟨t, 0, none⟩), .int .u64 key, Value.int .u64 y] w fun e w' => e = .returned (.tuple #[Value.int .u64 (if key ∈ T.l then T.get key else 0), .bool (decide (key ∈ T.l)), .int .i64 0]) ∧
      ∃ F', TbW w' t F' (T.put 0 key y) ∧ Fr F w F' w' := by
  obtain ⟨g, cz, A, cp, rfl, hb, hs, hv, hok⟩ := h
  have hok' := hok.put (by omega) 0 key y
  have hk3 := hok.k3
  have h8 := eight hk3
  have hr := hok.room
  obtain ⟨hl0, hj0, _, _, hio⟩ := TInv.look hok.inv (hmk_lt (by omega) (by omega)) key
  have hfu : 2 ^ T.k ≤ 4611686018427387904 := Nat.le_trans (Nat.pow_le_pow_right (by omega) hk) (by decide)
  by_cases hm : key ∈ T.l
  · obtain ⟨hu, hkj⟩ : T.s.U (T.s.slot T.k key) = true ∧ T.s.K (T.s.slot T.k key) = key := by
      rcases hio with ⟨_, h1, h2⟩ | ⟨h1, _⟩
      · exact ⟨h1, h2⟩
      · exact (h1 hm).elim
    have hT' : T.put 0 key y = ⟨T.k, T.l, T.s.put T.k key y⟩ := by unfold Tbl.put; rw [if_pos hm]
    rw [hT'] at hok' ⊢
    refine (putW_had (x := T.get key) (y := y) hT hb hs (by omega) (by omega) hfu hl0 hj0 hu rfl).mono ?_
    rintro _ w' ⟨rfl, rfl⟩
    rw [if_pos hm, decide_eq_true hm]
    have hgt : t ≠ g := by obtain ⟨cs, hcb, _⟩ := hs; exact Blk.ne_ hb hcb (by decide)
    have hvg : ¬ own (.slice A T.l.length cp) g := by obtain ⟨cs, hcb, _⟩ := hs; exact Rowv.ne_ hv hcb (by decide)
    refine ⟨rfl, _, ⟨g, cz, A, cp, rfl, (hb.alloc _).far (p := ⟨g, _, none⟩) hgt _, ?_, (hv.alloc _).set (p := ⟨g, _, none⟩) hvg _, hok'⟩, ((Fr.refl _ w).alloc _).set (p := ⟨g, _, none⟩) (.inl (.inr (.inl rfl))) _⟩
    obtain ⟨cs, hcb, hc⟩ := hs
    refine ⟨_, (hcb.alloc _).set_ _ _, fun i hi => ?_⟩
    obtain ⟨c0, c1, c2⟩ := hc i hi
    have s2 := (Array.getElem?_eq_some_iff.1 (hc _ hj0).2.2).1
    show _ = some (Value.bool (if i = T.s.slot T.k key then true else T.s.U i)) ∧ _ = some (Value.int .u64 (if i = T.s.slot T.k key then key else T.s.K i)) ∧ _ = some (Value.int .u64 (if i = T.s.slot T.k key then y else T.s.X i))
    change slotOf T.s.U T.s.K (2 ^ T.k) (hmk T.k key) key * 3 + 2 < cs.size at s2
    have hsl : slotOf T.s.U T.s.K (2 ^ T.k) (hmk T.k key) key = T.s.slot T.k key := rfl
    rw [hsl] at s2 ⊢
    generalize T.s.slot T.k key = j at *
    by_cases e : i = j
    · subst e
      rw [Array.getElem?_setIfInBounds_ne (by omega), Array.getElem?_setIfInBounds_ne (by omega), c0, c1, if_pos rfl, if_pos rfl, if_pos rfl, hu, hkj]
      exact ⟨rfl, rfl, by simp [s2]⟩
    · rw [Array.getElem?_setIfInBounds_ne (by omega), Array.getElem?_setIfInBounds_ne (by omega), Array.getElem?_setIfInBounds_ne (by omega), if_neg e, if_neg e, if_neg e]
      exact ⟨c0, c1, c2⟩
  · have hu : T.s.U (T.s.slot T.k key) = false := by
      rcases hio with ⟨h1, _⟩ | ⟨_, h1, _⟩
      · exact (hm h1).elim
      · exact h1
    rw [if_neg hm, decide_eq_false hm]
    by_cases hg : 3 * 2 ^ T.k < 4 * (T.l.length + 1)
    · have hT' : T.put 0 key y = ⟨T.k + 1, T.l ++ [key], (T.s.grown T.k 0 T.l).put (T.k + 1) key y⟩ := by unfold Tbl.put; rw [if_neg hm, if_pos hg]
      rw [hT'] at hok' ⊢
      refine (putW_grow (y := y) hT hb hs hv hok.inv (by omega) (hgr hg) hm hg (by rw [Nat.pow_succ]; omega) hlen hby).mono ?_
      rintro _ w' ⟨rfl, g', A', cp', b1, s1, v1, m1⟩
      have hle : (T.l ++ [key]).length = T.l.length + 1 := by simp
      exact ⟨rfl, _, ⟨g', _, A', cp', rfl, by rw [hle]; exact b1, s1, by rw [hle]; exact v1, hok'⟩, by rw [hle]; exact m1⟩
    · have hT' : T.put 0 key y = ⟨T.k, T.l ++ [key], T.s.put T.k key y⟩ := by unfold Tbl.put; rw [if_neg hm, if_neg hg]
      rw [hT'] at hok' ⊢
      refine (putW_new (y := y) hT hb hs hv (by omega) (by omega) hfu hl0 hj0 hu (by omega) hlen (Nat.le_trans (Nat.pow_le_pow_right (by omega) hk) (by decide))).mono ?_
      rintro _ w' ⟨rfl, A', cp', b1, s1, v1, m1⟩
      have hle : (T.l ++ [key]).length = T.l.length + 1 := by simp
      rw [updW] at s1
      exact ⟨rfl, _, ⟨g, cz, A', cp', rfl, by rw [hle]; exact b1, s1, by rw [hle]; exact v1, hok'⟩, by rw [hle]; exact m1⟩
theorem Tbl.lookW {w : World} {t : Nat} {F : Nat → Prop} {T : Tbl Int} (h : TbW w t F T) (hk : T.k ≤ 42) (key : Int) : lgo T.s.U T.s.K key (2 ^ T.k) (2 ^ T.k) (homeOf key T.k).toNat 1 = some (T.s.slot T.k key, T.asked key) ∧ T.s.slot T.k key < 2 ^ T.k ∧ T.s.U (T.s.slot T.k key) = decide (key ∈ T.l) ∧ 1 ≤ T.asked key ∧ T.asked key ≤ T.l.length + 1 := by
  have hok := h.ok
  have := hok.k3
  obtain ⟨hl0, hj0, ha, hb, hio⟩ := TInv.look hok.inv (hmk_lt (by omega) (by omega)) key
  refine ⟨hl0, hj0, ?_, ha, hb⟩
  rcases hio with ⟨h1, h2, _⟩ | ⟨h1, h2, _⟩
  · rw [decide_eq_true h1]; exact h2
  · rw [decide_eq_false h1]; exact h2
theorem getW_tb {w : World} {t : Nat} {F : Nat → Prop} {T : Tbl Int} {key : Int} (hT : Tab w) (h : TbW w t F T) (hk : T.k ≤ 42) :
    Calls Tryd.prog 61 #[.pointer (some ⟨t, 0, none⟩), .int .u64 key] w fun e w' => e = .returned (.tuple #[Value.int .u64 (T.get key), .bool (decide (key ∈ T.l))]) ∧ ∃ n, w' = w.drewN n := by
  obtain ⟨hl, hj, hu, _⟩ := Tbl.lookW h hk key
  have := h.ok.k3
  obtain ⟨g, cz, A, cp, rfl, hb, hs, hv, hok⟩ := h
  have := getW_b hT hb hs (by omega) (by omega) (Nat.le_trans (Nat.pow_le_pow_right (by omega) hk) (by decide)) hl hj
  rw [hu] at this
  exact this
theorem takeW_tb {w : World} {t : Nat} {F : Nat → Prop} {T : Tbl Int} {key : Int} (hT : Tab w) (h : TbW w t F T) (hk : T.k ≤ 42) (hlen : T.l.length * 8 ≤ 140737488355328) :
    Calls Tryd.prog 62 #[.pointer (some ⟨t, 0, none⟩), .int .u64 key] w fun e w' => e = .returned (.tuple #[Value.int .u64 (T.get key), .bool (decide (key ∈ T.l))]) ∧ ∃ F', TbW w' t F' (T.take 0 key) ∧ Fr F w F' w' := by
  have hb8 := h
  have hk3 := h.ok.k3
  obtain ⟨g, cz, A, cp, rfl, hb, hs, hv, hok⟩ := h
  have hok' := hok.take (by omega) 0 key
  by_cases hm : key ∈ T.l
  · have hT' : T.take 0 key = ⟨T.k, T.l.filter (· != key), T.s.take T.k 0 key⟩ := by unfold Tbl.take; rw [if_pos hm]
    rw [decide_eq_true hm]
    rw [hT'] at hok' ⊢
    refine (takeW_yes hT hb hs hv hok.inv (by omega) (by omega) hm hlen).mono ?_
    rintro _ w' ⟨rfl, b1, s1, v1, m1⟩
    have hle : (T.l.filter (· != key)).length = T.l.length - 1 := by
      obtain ⟨i, hi, hki, _⟩ := first_at hm
      rw [← hki, ← erase_filter hok.inv.nodup hi, List.length_eraseIdx, if_pos hi]
    refine ⟨rfl, _, ⟨g, cz, A, cp, rfl, by rw [hle]; exact b1, s1, by rw [hle]; exact v1, hok'⟩, ?_⟩
    exact m1.into fun k hk => .inl (hk.imp id fun h => h.imp id fun h => own_len h)
  · have hT' : T.take 0 key = T := by unfold Tbl.take; rw [if_neg hm]
    rw [decide_eq_false hm, hT']
    refine (takeW_no hT hb hs hok.inv (by omega) (by omega) hm).mono ?_
    rintro _ w' ⟨rfl, n, rfl⟩
    exact ⟨rfl, _, hb8, (Fr.refl _ w).drewN n⟩
theorem lenW_tb {w : World} {t : Nat} {F : Nat → Prop} {T : Tbl Int} (h : TbW w t F T) :
    Calls Tryd.prog 69 #[.pointer (some ⟨t, 0, none⟩)] w fun e w' => e = .returned (.int .i64 (T.l.length : Int)) ∧ w = w' := by
  obtain ⟨g, cz, A, cp, rfl, hb, hs, hv, hok⟩ := h
  exact lenW_b hb
theorem slotsW_tb {w : World} {t : Nat} {F : Nat → Prop} {T : Tbl Int} (h : TbW w t F T) :
    Calls Tryd.prog 59 #[.pointer (some ⟨t, 0, none⟩)] w fun e w' => e = .returned (.int .i64 ((2 ^ T.k : Nat) : Int)) ∧ w = w' := by
  obtain ⟨g, cz, A, cp, rfl, hb, hs, hv, hok⟩ := h
  exact slotsW_b (c1 := .slice A T.l.length cp) (hb.cell 0)
theorem askedW_tb {w : World} {t : Nat} {F : Nat → Prop} {T : Tbl Int} {key : Int} (hT : Tab w) (h : TbW w t F T) (hk : T.k ≤ 42) :
    Calls Tryd.prog 36 #[.pointer (some ⟨t, 0, none⟩), .int .u64 key] w fun e w' => e = .returned (.int .i64 (T.asked key : Int)) ∧ w = w' := by
  obtain ⟨hl, hj, hu, _⟩ := Tbl.lookW h hk key
  have := h.ok.k3
  obtain ⟨g, cz, A, cp, rfl, hb, hs, hv, hok⟩ := h
  exact askedW_b hT hb (SltW.at_ hs) (by omega) (by omega) (Nat.le_trans (Nat.pow_le_pow_right (by omega) hk) (by decide)) hl
theorem keysW_tb {w : World} {t : Nat} {F : Nat → Prop} {T : Tbl Int} (h : TbW w t F T) (hlen : T.l.length * 8 ≤ 140737488355328) :
    Calls Tryd.prog 67 #[.pointer (some ⟨t, 0, none⟩)] w fun e w' => ∃ A' cp', e = .returned (.slice A' T.l.length cp') ∧ Wl w' (.slice A' T.l.length cp') T.l ∧ Fr (fun _ => False) w (own (.slice A' T.l.length cp')) w' := by
  obtain ⟨g, cz, A, cp, rfl, hb, hs, hv, hok⟩ := h
  exact keysW_b hb hv hlen
end Go.Proofs.YtkjeobcfaolcaaaDoor
/- Free slots hold zero. Plain. -/
namespace Go.Proofs.YtkjeobcfaolcaaaDoor
set_option linter.unusedVariables false

section
variable {β : Type} {s : St β} {z : β}
def St.Clean (s : St β) (z : β) : Prop := ∀ i, s.U i = false → s.X i = z
theorem St.Clean.zero (z : β) : (St.zero z).Clean z := fun _ _ => rfl
theorem St.Clean.set (h : s.Clean z) (j : Nat) (key : Int) (x : β) : (s.set j key x).Clean z := fun i hu => by
  change (if i = j then true else s.U i) = false at hu
  show (if i = j then x else s.X i) = z
  by_cases e : i = j
  · rw [if_pos e] at hu; cases hu
  · rw [if_neg e] at hu ⊢; exact h i hu
theorem St.Clean.clear (h : s.Clean z) (j : Nat) : (s.clear j z).Clean z := fun i hu => by
  change (if i = j then false else s.U i) = false at hu
  show (if i = j then z else s.X i) = z
  by_cases e : i = j
  · rw [if_pos e]
  · rw [if_neg e] at hu ⊢; exact h i hu
theorem St.Clean.put (h : s.Clean z) (k : Nat) (key : Int) (x : β) : (s.put k key x).Clean z := h.set _ _ _
theorem St.Clean.fold (k : Nat) : ∀ (l : List (Int × β)) (s : St β), s.Clean z → (l.foldl (fun s p => s.put k p.1 p.2) s).Clean z
  | [], s, h => h
  | p :: l, s, h => by rw [List.foldl_cons]; exact St.Clean.fold k l _ (h.put k p.1 p.2)
theorem St.Clean.grown (s : St β) (k : Nat) (z : β) (l : List Int) : (s.grown k z l).Clean z := St.Clean.fold (k + 1) _ _ (St.Clean.zero z)
theorem St.Clean.shift (n : Nat) (hm : Int → Nat) : ∀ (r : Nat) (s : St β) (f k : Nat), s.Clean z → (St.shift n hm z r s f k).Clean z
  | 0, s, f, k, h => h
  | r + 1, s, f, k, h => by
    rw [St.shift]
    split
    · split
      · exact St.Clean.shift n hm r _ _ _ ((h.set _ _ _).clear _)
      · exact St.Clean.shift n hm r _ _ _ h
    · exact h
theorem St.Clean.take (h : s.Clean z) (k : Nat) (key : Int) : (s.take k z key).Clean z := St.Clean.shift _ _ _ _ _ _ (h.clear _)
variable {T : Tbl β}
theorem Tbl.clean_new (z : β) : (Tbl.new z).s.Clean z := St.Clean.zero z
theorem Tbl.clean_put (h : T.s.Clean z) (key : Int) (x : β) : (T.put z key x).s.Clean z := by
  unfold Tbl.put
  split
  · exact h.put _ _ _
  · split
    · exact (St.Clean.grown _ _ _ _).put _ _ _
    · exact h.put _ _ _
theorem Tbl.clean_take (h : T.s.Clean z) (key : Int) : (T.take z key).s.Clean z := by
  unfold Tbl.take
  split
  · exact h.take _ _
  · exact h
end
end Go.Proofs.YtkjeobcfaolcaaaDoor
