/- Take, by contract (a table of uint64). -/
import Derived.Test.YtkjeobcfaolcaaaDoorPIx1
import Derived.Test.YtkjeobcfaolcaaaDoorPIx6
import Derived.Test.YtkjeobcfaolcaaaDoorPIx7
namespace Go.Proofs.YtkjeobcfaolcaaaDoor
open Go.RowKit Go.Shelf
set_option maxHeartbeats 8000000
set_option linter.unusedVariables false
set_option linter.unusedSimpArgs false

theorem SltW.put3 {w : World} {g sl : Nat} {U : Nat → Bool} {K : Nat → Int} {X : Nat → Value} (h : SltW w g sl U K X) {j : Nat} (hj : j < sl) (b : Bool) (key : Int) (x : Value) {n : Nat} :
    SltW ((((w.drewN n).setCell ⟨g, j * 3, none⟩ (.bool b)).setCell ⟨g, j * 3 + 1, none⟩ (.int .u64 key)).setCell ⟨g, j * 3 + 2, none⟩ x) g sl (fun i => if i = j then b else U i) (fun i => if i = j then key else K i) (fun i => if i = j then x else X i) := by
  obtain ⟨cs, hb, hc⟩ := h
  refine ⟨_, (((hb.drewN n).set_ (j * 3) (.bool b)).set_ (j * 3 + 1) (.int .u64 key)).set_ (j * 3 + 2) x, fun i hi => ?_⟩
  obtain ⟨c0, c1, c2⟩ := hc i hi
  obtain ⟨j0, j1, j2⟩ := hc j hj
  have s0 := (Array.getElem?_eq_some_iff.1 j0).1
  have s1 := (Array.getElem?_eq_some_iff.1 j1).1
  have s2 := (Array.getElem?_eq_some_iff.1 j2).1
  by_cases e : i = j
  · subst e
    simp [Array.getElem?_setIfInBounds, s0, s1, s2]
  · have a0 : j * 3 ≠ i * 3 := by omega
    have a1 : j * 3 + 1 ≠ i * 3 := by omega
    have a2 : j * 3 + 2 ≠ i * 3 := by omega
    have b0 : j * 3 ≠ i * 3 + 1 := by omega
    have b1 : j * 3 + 1 ≠ i * 3 + 1 := by omega
    have b2 : j * 3 + 2 ≠ i * 3 + 1 := by omega
    have d0 : j * 3 ≠ i * 3 + 2 := by omega
    have d1 : j * 3 + 1 ≠ i * 3 + 2 := by omega
    have d2 : j * 3 + 2 ≠ i * 3 + 2 := by omega
    simp only [Array.getElem?_setIfInBounds, a0, a1, a2, b0, b1, b2, d0, d1, d2, if_false, if_neg e]
    exact ⟨c0, c1, c2⟩
theorem HolW.clear {w : World} {g sl : Nat} {s : St Int} (h : HolW w g sl s) {j : Nat} (hj : j < sl) (z : Int) (n : Nat) :
    HolW ((((w.drewN n).setCell ⟨g, j * 3, none⟩ (.bool false)).setCell ⟨g, j * 3 + 1, none⟩ (.int .u64 0)).setCell ⟨g, j * 3 + 2, none⟩ (Value.int .u64 z)) g sl (s.clear j z) := by
  have := SltW.put3 h hj false 0 (Value.int .u64 z) (n := n)
  rw [updW] at this
  exact this
theorem HolW.frs {F F' : Nat → Prop} {w w' : World} {g sl : Nat} {s : St Int} (h : HolW w g sl s) (hf : Fr F w F' w') (hF : ¬ F g) : HolW w' g sl s := SltW.fr h hf hF
set_option maxRecDepth 100000 in
theorem takeW_no {t g k cz : Nat} {key : Int} {s : St Int} {c1 : Value} {l : List Int} {w : World} (hT : Tab w) (ht : Blk w t 96 #[.slice (some ⟨g, 0, none⟩) (2 ^ k : Nat) cz, c1])
    (hS : HolW w g (2 ^ k) s) (hI : s.Inv k l) (h1 : 1 ≤ k) (h2 : k ≤ 43) (hk : key ∉ l) :
    Calls Tryd.prog 62 #[.pointer (some ⟨t, 0, none⟩), .int .u64 key] w fun e w' => e = .returned (.tuple #[Value.int .u64 (s.X (s.slot k key)), .bool false]) ∧ ∃ n, w' = w.drewN n := by
  obtain ⟨hl0, hj0, _, _, hio⟩ := TInv.look hI (hmk_lt h1 (by omega)) key
  have hu0 : s.U (s.slot k key) = false := by
    rcases hio with ⟨h, _⟩ | ⟨_, h, _⟩
    · exact (hk h).elim
    · exact h
  have G := Lib.hid (getW_b hT ht hS h1 (by omega) (Nat.le_trans (Nat.pow_le_pow_right (by omega) h2) (by decide)) hl0 hj0)
  replace hj0 : s.slot k key < 2 ^ k := hj0
  have G : Hid (Calls Tryd.prog 61 #[.pointer (some ⟨t, 0, none⟩), .int .u64 key] w fun e w' => e = .returned (.tuple #[Value.int .u64 (s.X (s.slot k key)), .bool false]) ∧ ∃ n, w' = w.drewN n) := Lib.hid (by
    have := G.out
    rw [show s.U (slotOf s.U s.K (2 ^ k) (hmk k key) key) = false from hu0] at this
    exact this)
  clear hT ht hS hI hl0 hio hu0 hj0
  generalize s.X (s.slot k key) = x at *
  go_enter Tryd.func62, Tryd.ntmps62
  go_wp2_with fail
  refine G.out.mono ?_
  rintro _ w2 ⟨rfl, n, rfl⟩
  go_wp2
  go_ret2
  exact ⟨rfl, _, rfl⟩
set_option maxRecDepth 100000 in
theorem takeW_yes {t g k cz : Nat} {key : Int} {s : St Int} {A : Option Addr} {cp : Nat} {l : List Int} {w : World} (hT : Tab w) (ht : Blk w t 96 #[.slice (some ⟨g, 0, none⟩) (2 ^ k : Nat) cz, .slice A l.length cp])
    (hS : HolW w g (2 ^ k) s) (hv : Wl w (.slice A l.length cp) l) (hI : s.Inv k l) (h1 : 1 ≤ k) (h2 : k ≤ 43) (hk : key ∈ l) (hlen : l.length * 8 ≤ 140737488355328) :
    Calls Tryd.prog 62 #[.pointer (some ⟨t, 0, none⟩), .int .u64 key] w fun e w' => e = .returned (.tuple #[Value.int .u64 (s.X (s.slot k key)), .bool true]) ∧
      Blk w' t 96 #[.slice (some ⟨g, 0, none⟩) (2 ^ k : Nat) cz, .slice A (l.length - 1) cp] ∧ HolW w' g (2 ^ k) (s.take k 0 key) ∧ Wl w' (.slice A (l.length - 1) cp) (l.filter (· != key)) ∧
        Fr (fun b => b = t ∨ b = g ∨ own (.slice A l.length cp) b) w (fun b => b = t ∨ b = g ∨ own (.slice A l.length cp) b) w' := by
  have hsq : (2 : Nat) ^ k ≤ 2 ^ 43 := Nat.pow_le_pow_right (by omega) h2
  have hn2 : 2 ≤ 2 ^ k := Nat.le_trans (show 2 ≤ 2 ^ 1 by decide) (Nat.pow_le_pow_right (by decide) h1)
  obtain ⟨hl0, hj0, _, _, hio⟩ := TInv.look hI (hmk_lt h1 (by omega)) key
  obtain ⟨hu0, hk0⟩ : s.U (s.slot k key) = true ∧ s.K (s.slot k key) = key := by
    rcases hio with ⟨_, h, h'⟩ | ⟨h, _⟩
    · exact ⟨h, h'⟩
    · exact (h hk).elim
  replace hj0 : s.slot k key < 2 ^ k := hj0
  obtain ⟨en, hen, hue⟩ := TInv.free hI
  have hh0 := Lib.hid (TInv.hole (z := 0) (s := s) hI hj0 hu0 hk0 hn2 hen hue)
  have htk : Hid (s.take k 0 key = St.shift (2 ^ k) (hmk k) 0 (2 ^ k) (s.clear (s.slot k key) 0) (s.slot k key) ((s.slot k key + 1) % 2 ^ k)) := Lib.hid rfl
  have G : Hid (Calls Tryd.prog 61 #[.pointer (some ⟨t, 0, none⟩), .int .u64 key] w fun e w' => e = .returned (.tuple #[Value.int .u64 (s.X (s.slot k key)), .bool true]) ∧ ∃ n, w' = w.drewN n) := Lib.hid (by
    have := getW_b hT ht hS h1 (by omega) (Nat.le_trans hsq (by decide)) hl0 hj0
    rw [show s.U (slotOf s.U s.K (2 ^ k) (hmk k key) key) = true from hu0] at this
    exact this)
  have C : Hid (∀ n, Calls Tryd.prog 70 #[.pointer (some ⟨t, 0, none⟩), .int .u64 key] (w.drewN n) fun e w' => e = .returned (.tuple #[.int .i64 (s.slot k key : Int), .int .i64 (s.asked k key : Int)]) ∧ w.drewN n = w') := Lib.hid fun n =>
    lookW_b (hT.drewNW n) (ht.drewN n) (SltW.at_ (SltW.drewN hS n)) h1 (by omega) (Nat.le_trans hsq (by decide)) hl0
  have HM : Hid (∀ W x, Tab W → Calls Tryd.prog 42 #[.int .u64 x, .int .i64 ((2 ^ k : Nat) : Int)] W fun e w' => e = .returned (.int .i64 (hmk k x : Int)) ∧ W = w') := Lib.hid fun W x hW => by
    have := home_b (key := x) h1 (by omega) hW
    have hb := homeOf_bd x h1 (k := k) (by omega)
    rw [show ((hmk k x : Nat) : Int) = homeOf x k by unfold hmk; omega]
    exact this
  have BN : Hid (∀ i : Nat, i < 2 ^ k → bits .and .i64 ((i : Int) + 1) (((2 ^ k : Nat) : Int) - 1) = (((i + 1) % 2 ^ k : Nat) : Int)) := Lib.hid fun i hi => bit_next (k := k) (i := i) (Nat.le_trans h2 (by decide)) hi
  have BD : Hid (∀ f h : Nat, f < 2 ^ k → h < 2 ^ k → bits .and .i64 ((f : Int) - (h : Int)) (((2 ^ k : Nat) : Int) - 1) = (dst (2 ^ k) h f : Int)) := Lib.hid fun f h a b => bit_dst (k := k) (f := f) (h := h) (Nat.le_trans h2 (by decide)) a b
  have HB : Hid (∀ x, hmk k x < 2 ^ k) := Lib.hid (hmk_lt h1 (by omega))
  obtain ⟨ix, hix, hixk, hixn⟩ : ∃ i, ∃ (hi : i < l.length), l[i] = key ∧ ∀ j (hj : j < i), l[j]'(by omega) ≠ key := first_at hk
  have hef : Hid (l.eraseIdx ix = l.filter (· != key)) := Lib.hid (by rw [erase_filter hI.nodup hix, hixk])
  have hdl : Hid (dst (2 ^ k) ((s.slot k key + 1) % 2 ^ k) en < 2 ^ k) := Lib.hid (dst_lt (Nat.mod_lt _ (by omega)) hen)
  have T0 := Lib.hid hT
  have B0 := Lib.hid ht
  have S0 := Lib.hid hS
  have V0 := Lib.hid hv
  have hgt : t ≠ g := by obtain ⟨cs, hb, _⟩ := hS; exact Blk.ne_ ht hb (by decide)
  have hvt : ¬ own (.slice A l.length cp) t := Rowv.ne_ hv ht (by decide)
  have hvg : ¬ own (.slice A l.length cp) g := by obtain ⟨cs, hb, _⟩ := hS; exact Rowv.ne_ hv hb (by decide)
  have hT1 : 1 ≠ t := Tab.neW hT ht
  have hTg : 1 ≠ g := by
    rintro rfl
    obtain ⟨cs, hb, hc⟩ := hS
    have h1 := hT 0 (by decide)
    rw [hb.cell 0, (hc 0 (by omega)).1] at h1
    cases h1
  clear hT ht hS hv hl0 hio hu0 hk0 hI hk
  obtain ⟨sl, hsl⟩ : ∃ sl, Hid (sl = 2 ^ k) := ⟨_, Lib.hid rfl⟩
  rw [← hsl.out] at hsq hn2 hj0 hen hh0 htk HM BN BD HB hdl B0 S0
  have hl1 : (l.length : Int) ≤ 17592186044416 := by omega
  have hl2 : (sl : Int) ≤ 8796093022208 := by omega
  rw [← hsl.out]
  generalize s.X (s.slot k key) = x0 at *
  generalize s.slot k key = j0 at *
  generalize s.asked k key = m0 at *
  generalize hmk k = hm at *
  generalize s.take k 0 key = fin at *
  clear hsl h1 h2 hue
  have d0 : w.cell? ⟨t, 0, none⟩ = some (.slice (some ⟨g, 0, none⟩) sl cz) := B0.out.cell 0
  have hj0l : decide (j0 < sl) = true := decide_eq_true hj0
  have S1 : Hid (∀ n, HolW ((((w.drewN n).setCell ⟨g, j0 * 3, none⟩ (.bool false)).setCell ⟨g, j0 * 3 + 1, none⟩ (.int .u64 0)).setCell ⟨g, j0 * 3 + 2, none⟩ (Value.int .u64 0)) g sl (s.clear j0 0)) := Lib.hid fun n => HolW.clear S0.out hj0 0 n
  have M1 : Hid (∀ n, Fr (fun b => b = g) w (fun b => b = g) ((((w.drewN n).setCell ⟨g, j0 * 3, none⟩ (.bool false)).setCell ⟨g, j0 * 3 + 1, none⟩ (.int .u64 0)).setCell ⟨g, j0 * 3 + 2, none⟩ (Value.int .u64 0))) := Lib.hid fun n =>
    ((((Fr.refl (fun b => b = g) w).drewN n).set (p := ⟨g, _, none⟩) (.inl rfl) _).set (p := ⟨g, _, none⟩) (.inl rfl) _).set (p := ⟨g, _, none⟩) (.inl rfl) _
  have dU := (SltW.at_ S0.out _ hj0).1
  have dK := (SltW.at_ S0.out _ hj0).2
  have dX := (SltW.val S0.out hj0).1
  have dz := (SltW.val S0.out hj0).2
  have z0 := dz (j0 * 3)
  have z1 := dz (j0 * 3 + 1)
  have z2 := dz (j0 * 3 + 2)
  have hbn0 := BN.out j0 hj0
  have hj0i : (j0 : Int) ≤ 8796093022208 := by omega
  clear dz S0
  go_enter Tryd.func62, Tryd.ntmps62
  go_wp2_with fail
  refine G.out.mono ?_
  rintro _ w2 ⟨rfl, n1, rfl⟩
  go_wp2_with fail
  refine (C.out n1).mono ?_
  rintro _ w3 ⟨rfl, rfl⟩
  clear G C
  go_wp2
  go_loopw [8, 11] (fun f kk wr => ∃ (fn kn r : Nat) (s' : St Int), f = .int .i64 fn ∧ kk = .int .i64 kn ∧ fn < sl ∧ kn < sl ∧ dst sl kn en < r ∧ Hid (HolW wr g sl s' ∧ Sh sl hm s' fn kn en (l.filter (· != key)) ∧ fin = St.shift sl hm 0 r s' fn kn ∧ Fr (fun b => b = g) w (fun b => b = g) wr)) (fun _ kk _ => dst sl (intOf kk).toNat en)
  case atStart => exact ⟨j0, (j0 + 1) % sl, sl, s.clear j0 0, rfl, rfl, hj0, Nat.mod_lt _ (by omega), hdl.out, Lib.hid ⟨S1.out n1, hh0.out, htk.out, M1.out n1⟩⟩
  case round =>
    clear S1 M1 hh0 htk hdl dU dK dX z0 z1 z2 hbn0 d0 hj0l hj0i
    obtain ⟨fn, kn, r, s', rfl, rfl, hfn, hkn, hr, HH⟩ := hrel
    obtain ⟨HS, HSh, hfin, HF⟩ := HH.out
    have B := Lib.hid (HF.blk B0.out hgt)
    have T := Lib.hid (T0.out.keep (HF.block 1 T0.out.lt hTg))
    have dt : wr.cell? ⟨t, 0, none⟩ = some (.slice (some ⟨g, 0, none⟩) sl cz) := B.out.cell 0
    have kU := (SltW.at_ HS _ hkn).1
    have kK := (SltW.at_ HS _ hkn).2
    have kX := (SltW.val HS hkn).1
    have kz := (SltW.val HS hkn).2
    have fU := (SltW.at_ HS _ hfn).1
    have fK := (SltW.at_ HS _ hfn).2
    have fX := (SltW.val HS hfn).1
    have hfl : decide (fn < sl) = true := decide_eq_true hfn
    have hkl : decide (kn < sl) = true := decide_eq_true hkn
    have hfi : (fn : Int) ≤ 8796093022208 := by omega
    have hki : (kn : Int) ≤ 8796093022208 := by omega
    have hbn := BN.out kn hkn
    by_cases hu : s'.U kn = true
    · rw [hu] at kU
      have hh := HB.out (s'.K kn)
      have hb1 := BD.out fn _ hfn hh
      have hb2 := BD.out kn _ hkn hh
      have HH2 := Lib.hid hu
      have hne := HSh.ne
      have hdf : Hid (hm (s'.K kn) = hm (s'.K kn)) := Lib.hid rfl
      obtain ⟨h, hhe⟩ : ∃ h, Hid (h = hm (s'.K kn)) := ⟨_, Lib.hid rfl⟩
      have HMk := HM.out
      have HMk : Hid (∀ W, Tab W → Calls Tryd.prog 42 #[.int .u64 (s'.K kn), .int .i64 (sl : Int)] W fun e w' => e = .returned (.int .i64 (h : Int)) ∧ W = w') := Lib.hid fun W hW => by rw [hhe.out]; exact HM.out W _ hW
      rw [← hhe.out] at hh hb1 hb2
      have hhi : (h : Int) ≤ 8796093022208 := by omega
      have hstep : Hid (fin = (if dst sl h fn < dst sl h kn then St.shift sl hm 0 (r - 1) (s'.move fn kn 0) kn ((kn + 1) % sl) else St.shift sl hm 0 (r - 1) s' fn ((kn + 1) % sl))) := Lib.hid (by
        rw [hfin]
        obtain ⟨r', rfl⟩ : ∃ r', r = r' + 1 := ⟨r - 1, by omega⟩
        rw [St.shift, if_pos hu, ← hhe.out]
        rfl)
      have hke : kn ≠ en := fun e => by have := HSh.end_; rw [← e, hu] at this; cases this
      obtain ⟨qn, hqn, hq⟩ := nxq hkn
      have hdq : dst sl qn en < dst sl kn en := by
        unfold dst
        split <;> (split <;> omega)
      have hqs : qn < sl := by rcases hq with ⟨_, h⟩ | ⟨h, h'⟩ <;> omega
      rw [hqn] at hbn
      generalize hda : dst sl h fn = da at *
      generalize hdb : dst sl h kn = db at *
      have hda := Lib.hid hda
      have hdb := Lib.hid hdb
      have hfin := Lib.hid hfin
      have HS := Lib.hid HS
      have HSh := Lib.hid HSh
      have HF := Lib.hid HF
      have hu := Lib.hid hu
      have hqn := Lib.hid hqn
      have hq := Lib.hid hq
      have hdq := Lib.hid hdq
      have kz0 := kz (kn * 3)
      have kz1 := kz (kn * 3 + 1)
      have kz2 := kz (kn * 3 + 2)
      have fz0 := kz (fn * 3)
      have fz1 := kz (fn * 3 + 1)
      have fz2 := kz (fn * 3 + 2)
      clear kz
      go_wp2_with fail
      refine wp_region_mix (fun _ => True) [3, 3, 3, 1, 3, 3, 3, 1, 3, 3, 3, 1, 3, 2, 3] (List.range 15) (by kernel_rfl) (by kernel_rfl) (fun _ _ h => h) trivial ?_
      repeat ((first | refine wpMix_pure rfl rfl (fun K hK => ?_) | refine wpMix_loc rfl rfl (fun K hK => ?_) | refine wpMix_any rfl rfl (fun K hK => ?_)); go_simp; refine hK _ _ ?_; clear hK K)
      refine wpMix_loud rfl rfl (fun n2 K hK => ?_)
      go_wp2_with fail
      refine (HMk.out _ (T.out.drewNW (1 + n2))).mono ?_
      rintro _ w5 ⟨rfl, rfl⟩
      go_wp2_with fail
      refine hK _ _ (fun _ => trivial) ?_; clear hK K
      repeat ((first | refine wpMix_pure rfl rfl (fun K hK => ?_) | refine wpMix_loc rfl rfl (fun K hK => ?_) | refine wpMix_any rfl rfl (fun K hK => ?_)); go_simp; refine hK _ _ ?_; clear hK K)
      refine wpMix_nil (fun n3 => ?_)
      by_cases hc : da < db
      · have hci : ((da : Int) < (db : Int)) := by omega
        go_wp2_with fail
        refine wp_region_mix (fun W' => W'.cell? ⟨t, 0, none⟩ = some (.slice (some ⟨g, 0, none⟩) sl cz) ∧ W'.cell? ⟨g, kn * 3, none⟩ = some (.bool true) ∧ W'.cell? ⟨g, kn * 3 + 1, none⟩ = some (.int .u64 (s'.K kn)) ∧ W'.cell? ⟨g, kn * 3 + 2, none⟩ = some (Value.int .u64 (s'.X kn))) [3, 3, 3, 0, 3, 3, 3, 3, 0, 3, 3, 3, 3, 0, 3, 3, 0, 3, 3, 2, 3, 2] (List.range 22) (by kernel_rfl) (by kernel_rfl) (fun _ _ h => h) ⟨dt, kU, kK, kX⟩ ?_
        repeat (first | ((first | refine wpMix_pure rfl rfl (fun K hK => ?_) | refine wpMix_loc rfl rfl (fun K hK => ?_) | refine wpMix_any rfl rfl (fun K hK => ?_)); go_simp; refine hK _ _ ?_; clear hK K) | (refine wpMix_any rfl rfl (fun K hK => ?_); rw [if_pos (by go_simp)]; apply Exists.intro; refine And.intro (fun w2 hS2 => ?_) (hK _ _ ?_); (focus (obtain ⟨hs1, hs2, hs3, hs4⟩ := hS2; go_simp; rfl)); clear hK K))
        refine wpMix_loud rfl rfl (fun n4 K hK => ?_)
        go_wp2
        obtain ⟨w6, hw6⟩ : ∃ u, u = ((((wr.drewN (1 + n2 + n3 + 1 + n4)).setCell ⟨g, fn * 3, none⟩ (.bool true)).setCell ⟨g, fn * 3 + 1, none⟩ (.int .u64 (s'.K kn))).setCell ⟨g, fn * 3 + 2, none⟩ (Value.int .u64 (s'.X kn))) := ⟨_, rfl⟩
        have S6 : Hid (HolW w6 g sl (s'.set fn (s'.K kn) (s'.X kn))) := Lib.hid (by rw [hw6]; exact HolW.set HS.out hfn _ _ _)
        have F6 : Hid (Fr (fun b => b = g) w (fun b => b = g) w6) := Lib.hid (by rw [hw6]; exact (((HF.out.drewN _).set (p := ⟨g, _, none⟩) (.inl rfl) _).set (p := ⟨g, _, none⟩) (.inl rfl) _).set (p := ⟨g, _, none⟩) (.inl rfl) _)
        rw [← hw6]
        clear hw6 fU fK fX kU kK kX kz0 kz1 kz2 fz0 fz1 fz2 dt hb1 hb2
        have k0 := (SltW.at_ S6.out _ hkn).1
        have k1 := (SltW.at_ S6.out _ hkn).2
        have k2 := (SltW.val S6.out hkn).1
        have kz := (SltW.val S6.out hkn).2
        have kz0 := kz (kn * 3)
        have kz1 := kz (kn * 3 + 1)
        have kz2 := kz (kn * 3 + 2)
        clear kz
        refine hK _ _ (fun h => (Bool.false_ne_true ((Eq.symm (by kernel_rfl)).trans h)).elim) ?_; clear hK K
        repeat ((first | refine wpMix_pure rfl rfl (fun K hK => ?_) | refine wpMix_loc rfl rfl (fun K hK => ?_) | refine wpMix_any rfl rfl (fun K hK => ?_)); go_simp; refine hK _ _ ?_; clear hK K)
        refine wpMix_loud rfl rfl (fun n5 K hK => ?_)
        go_wp2
        refine hK _ _ (fun h => (Bool.false_ne_true ((Eq.symm (by kernel_rfl)).trans h)).elim) ?_; clear hK K
        refine wpMix_nil (fun n6 => ?_)
        go_wp2
        have hc0 := hc
        rw [hda.out.symm, hdb.out.symm, hhe.out] at hc
        have e1 := HSh.out.moved (z := 0) HB.out hu.out hc
        rw [hqn.out] at e1
        have e2 := hstep.out
        rw [if_pos hc0, hqn.out] at e2
        have F7 : Fr (fun b => b = g) w (fun b => b = g) (((((w6.drewN n5).setCell ⟨g, kn * 3, none⟩ (.bool false)).setCell ⟨g, kn * 3 + 1, none⟩ (.int .u64 0)).setCell ⟨g, kn * 3 + 2, none⟩ (Value.int .u64 0)).drewN n6) := ((((F6.out.drewN n5).set (p := ⟨g, _, none⟩) (.inl rfl) _).set (p := ⟨g, _, none⟩) (.inl rfl) _).set (p := ⟨g, _, none⟩) (.inl rfl) _).drewN n6
        refine ⟨⟨kn, qn, r - 1, s'.move fn kn 0, rfl, rfl, hkn, hqs, by have := hdq.out; omega, Lib.hid ⟨SltW.drewN (HolW.clear S6.out hkn 0 n5) n6, e1, e2, F7⟩⟩, ?_⟩
        have := hdq.out
        simpa [intOf] using this
      · have hci : ¬ ((da : Int) < (db : Int)) := by omega
        go_wp2
        have hc0 := hc
        rw [hda.out.symm, hdb.out.symm, hhe.out] at hc
        have e1 := HSh.out.stay HB.out hu.out hc
        rw [hqn.out] at e1
        have e2 := hstep.out
        rw [if_neg hc0, hqn.out] at e2
        refine ⟨⟨fn, qn, r - 1, s', rfl, rfl, hfn, hqs, by have := hdq.out; omega, Lib.hid ⟨SltW.drewN HS.out _, e1, e2, HF.out.drewN _⟩⟩, ?_⟩
        have := hdq.out
        simpa [intOf] using this
    · have hu : s'.U kn = false := by simpa using hu
      rw [hu] at kU
      have hfs : fin = s' := by
        rw [hfin]
        obtain ⟨r', rfl⟩ : ∃ r', r = r' + 1 := ⟨r - 1, by omega⟩
        rw [St.shift, if_neg (by rw [hu]; decide)]
      have hfs := Lib.hid hfs
      have V := Lib.hid (V0.out.frs HF fun j hj => by intro e; exact hvg (e ▸ hj))
      have CI := Lib.hid (idx_b V.out hix hixk hixn hlen)
      obtain ⟨ga, off, rfl, _⟩ := V.out.cell hix
      have CD := Lib.hid (del_b V.out hix hlen)
      have d1 : wr.cell? ⟨t, 1, none⟩ = some (.slice (some ⟨ga, off, none⟩) l.length cp) := B.out.cell 1
      have hixi : (ix : Int) ≤ 17592186044416 := by omega
      have HS := Lib.hid HS
      have HF := Lib.hid HF
      clear fU fK fX kz hfin HSh hbn
      go_wp2_with fail
      refine CI.out.mono ?_
      rintro _ w5 ⟨rfl, rfl⟩
      go_wp2_with fail
      refine CD.out.mono ?_
      rintro _ w5 ⟨rfl, hw5, hm5⟩
      have hga : ∀ q, own (.slice (some ⟨ga, off, none⟩) l.length cp) q ↔ q = ga := fun q => by simp [own, Value.ownBlock, eq_comm]
      have hgat : t ≠ ga := fun e => hvt ((hga t).2 e)
      have hgag : g ≠ ga := fun e => hvg ((hga g).2 e)
      have B5 := Lib.hid (hm5.blk B.out hgat)
      have S5 := Lib.hid (HolW.frs HS.out hm5 hgag)
      have V5 := Lib.hid hw5
      have F5 : Hid (Fr (fun b => b = t ∨ b = g ∨ own (.slice (some ⟨ga, off, none⟩) l.length cp) b) w (fun b => b = t ∨ b = g ∨ own (.slice (some ⟨ga, off, none⟩) l.length cp) b) w5) := Lib.hid ((((HF.out.wide (G := fun b => b = t ∨ b = g ∨ own (.slice (some ⟨ga, off, none⟩) l.length cp) b) fun j hj => .inr (.inl hj)).into (G := fun b => b = t ∨ b = g ∨ own (.slice (some ⟨ga, off, none⟩) l.length cp) b) fun j hj => .inr (.inl hj)).trans (hm5.wide fun j hj => .inr (.inr ((hga j).2 hj)))).into fun j hj => .inr (.inl hj))
      have z1 := B5.out.frozen 1
      have d5 : w5.cell? ⟨t, 1, none⟩ = some (.slice (some ⟨ga, off, none⟩) l.length cp) := B5.out.cell 1
      clear hw5 hm5 CI CD
      go_wp2
      go_ret2
      have hB6 := B5.out.set_ 1 (.slice (some ⟨ga, off, none⟩) (l.length - 1) cp)
      refine ⟨rfl, hB6, ?_, ?_, F5.out.set (p := ⟨t, 1, none⟩) (.inl (.inl rfl)) _⟩
      · rw [hfs.out]
        obtain ⟨cs, hb, hc⟩ := S5.out
        exact ⟨cs, hb.far (p := ⟨t, 1, none⟩) hgt.symm _, hc⟩
      · rw [← hef.out]
        exact V5.out.set (p := ⟨t, 1, none⟩) hvt _
end Go.Proofs.YtkjeobcfaolcaaaDoor
/- A put and a take, whole, plain. -/
namespace Go.Proofs.YtkjeobcfaolcaaaDoor
set_option linter.unusedVariables false

/-- what a table holds: slots 2 ^ k, keys l -/
structure Tbl (β : Type) where
  k : Nat
  l : List Int
  s : St β
section
variable {β : Type}
def Tbl.new (z : β) : Tbl β := ⟨3, [], St.zero z⟩
def Tbl.put (T : Tbl β) (z : β) (key : Int) (x : β) : Tbl β :=
  if key ∈ T.l then ⟨T.k, T.l, T.s.put T.k key x⟩
  else if 3 * 2 ^ T.k < 4 * (T.l.length + 1) then ⟨T.k + 1, T.l ++ [key], (T.s.grown T.k z T.l).put (T.k + 1) key x⟩
  else ⟨T.k, T.l ++ [key], T.s.put T.k key x⟩
def Tbl.take (T : Tbl β) (z : β) (key : Int) : Tbl β := if key ∈ T.l then ⟨T.k, T.l.filter (· != key), T.s.take T.k z key⟩ else T
def Tbl.get (T : Tbl β) (key : Int) : β := T.s.X (T.s.slot T.k key)
def Tbl.asked (T : Tbl β) (key : Int) : Nat := T.s.asked T.k key
structure Tbl.Ok (T : Tbl β) : Prop where
  inv : T.s.Inv T.k T.l
  k3 : 3 ≤ T.k
  room : 4 * T.l.length ≤ 3 * 2 ^ T.k
theorem eight {k : Nat} (h : 3 ≤ k) : 8 ≤ 2 ^ k := Nat.le_trans (show 8 ≤ 2 ^ 3 by decide) (Nat.pow_le_pow_right (by decide) h)
theorem Tbl.new_ok (z : β) : (Tbl.new z).Ok := ⟨St.zero_inv z 3, by simp [Tbl.new], by simp [Tbl.new]⟩
theorem St.Inv.new {s : St β} {k : Nat} {l : List Int} (h : s.Inv k l) (h1 : 1 ≤ k) (h2 : k ≤ 62) {key : Int} (hk : key ∉ l) (x : β) (hr : l.length + 1 < 2 ^ k) : (s.put k key x).Inv k (l ++ [key]) := by
  have := h.put h1 h2 key x hr
  rwa [kadd, if_neg hk] at this
theorem Tbl.Ok.put {T : Tbl β} (h : T.Ok) (hk : T.k ≤ 60) (z : β) (key : Int) (x : β) : (T.put z key x).Ok := by
  have h8 := eight h.k3
  have hr := h.room
  have hk3 := h.k3
  unfold Tbl.put
  split
  · rename_i hm
    have hp := h.inv.put (by omega) (by omega) key x
    rw [kadd, if_pos hm] at hp
    refine ⟨?_, h.k3, h.room⟩
    obtain ⟨_, hj, _, _, (⟨_, hu, hkj⟩ | ⟨hn, _⟩)⟩ := TInv.look h.inv (hmk_lt (by omega) (by omega)) key
    · have e1 : (T.s.put T.k key x).U = T.s.U := by
        funext i
        show (if i = T.s.slot T.k key then true else T.s.U i) = T.s.U i
        split
        · subst_vars; exact hu.symm
        · rfl
      have e2 : (T.s.put T.k key x).K = T.s.K := by
        funext i
        show (if i = T.s.slot T.k key then key else T.s.K i) = T.s.K i
        split
        · subst_vars; exact hkj.symm
        · rfl
      show (T.s.put T.k key x).Inv T.k T.l
      unfold St.Inv
      rw [e1, e2]
      exact h.inv
    · exact (hn hm).elim
  · rename_i hm
    split
    · rename_i hg
      have hp : 2 ^ (T.k + 1) = 2 * 2 ^ T.k := by rw [Nat.pow_succ]; omega
      refine ⟨St.Inv.new (St.grown_inv h.inv z (by omega)) (by omega) (by omega) hm x (by omega), by show 3 ≤ T.k + 1; omega, ?_⟩
      show 4 * (T.l ++ [key]).length ≤ 3 * 2 ^ (T.k + 1)
      simp
      omega
    · rename_i hg
      refine ⟨St.Inv.new h.inv (by omega) (by omega) hm x (by omega), h.k3, ?_⟩
      show 4 * (T.l ++ [key]).length ≤ 3 * 2 ^ T.k
      simp
      omega
theorem Tbl.Ok.take {T : Tbl β} (h : T.Ok) (hk : T.k ≤ 60) (z : β) (key : Int) : (T.take z key).Ok := by
  have hk3 := h.k3
  unfold Tbl.take
  split
  · rename_i hm
    refine ⟨h.inv.take (by omega) (by omega) hm z, h.k3, ?_⟩
    have := List.length_filter_le (· != key) T.l
    have := h.room
    show 4 * (T.l.filter (· != key)).length ≤ 3 * 2 ^ T.k
    omega
  · exact h
theorem Tbl.mem_put (T : Tbl β) (z : β) (key : Int) (x : β) : key ∈ (T.put z key x).l := by
  unfold Tbl.put
  split
  · assumption
  · split <;> simp
theorem Tbl.not_take (T : Tbl β) (z : β) (key : Int) : key ∉ (T.take z key).l := by
  unfold Tbl.take
  split
  · simp
  · assumption
theorem Tbl.put_len (T : Tbl β) (z : β) (key : Int) (x : β) : (T.put z key x).l.length ≤ T.l.length + 1 := by
  unfold Tbl.put
  split
  · simp
  · split <;> simp
theorem Tbl.take_len (T : Tbl β) (z : β) (key : Int) : (T.take z key).l.length ≤ T.l.length := by
  unfold Tbl.take
  split
  · exact List.length_filter_le _ _
  · exact Nat.le_refl _
theorem Tbl.take_k (T : Tbl β) (z : β) (key : Int) : (T.take z key).k = T.k := by
  unfold Tbl.take
  split <;> rfl
/-- how many slots, at most, by how many puts -/
theorem Tbl.put_k (T : Tbl β) (z : β) (key : Int) (x : β) {m : Nat} (hm : T.l.length ≤ m) (h : 3 * 2 ^ T.k ≤ 8 * (m + 3)) : 3 * 2 ^ (T.put z key x).k ≤ 8 * (m + 1 + 3) := by
  unfold Tbl.put
  split
  · show 3 * 2 ^ T.k ≤ _; omega
  · split
    · have hp : 2 ^ (T.k + 1) = 2 * 2 ^ T.k := by rw [Nat.pow_succ]; omega
      show 3 * 2 ^ (T.k + 1) ≤ _
      omega
    · show 3 * 2 ^ T.k ≤ _; omega
/-- The slot of a key that has just been put. -/
theorem St.put_slot {s : St β} {k : Nat} {l : List Int} {key : Int} {x : β} (h : (s.put k key x).Inv k l) (h1 : 1 ≤ k) (h2 : k ≤ 62) (hk : key ∈ l) (hj : s.slot k key < 2 ^ k) : (s.put k key x).slot k key = s.slot k key := by
  obtain ⟨_, hj', _, _, (⟨_, hu, hkj⟩ | ⟨hn, _⟩)⟩ := TInv.look h (hmk_lt h1 h2) key
  · refine h.uniq _ _ hj' hj hu ?_ (hkj.trans ?_)
    · show (if s.slot k key = s.slot k key then true else _) = true
      rw [if_pos rfl]
    · show _ = (if s.slot k key = s.slot k key then key else _)
      rw [if_pos rfl]
  · exact (hn hk).elim
theorem St.put_get {s : St β} {k : Nat} {l : List Int} {key : Int} {x : β} (h : (s.put k key x).Inv k l) (h1 : 1 ≤ k) (h2 : k ≤ 62) (hk : key ∈ l) (hj : s.slot k key < 2 ^ k) : (s.put k key x).X ((s.put k key x).slot k key) = x := by
  rw [St.put_slot h h1 h2 hk hj]
  show (if s.slot k key = s.slot k key then x else _) = x
  rw [if_pos rfl]
theorem Tbl.get_put {T : Tbl β} (h : T.Ok) (hk : T.k ≤ 60) (z : β) (key : Int) (x : β) : (T.put z key x).get key = x := by
  have hok := h.put hk z key x
  have hmem := T.mem_put z key x
  have hk3 := h.k3
  have hsl := (TInv.look h.inv (hmk_lt (by omega) (by omega)) key).2.1
  have hsg := (TInv.look (St.grown_inv h.inv z (by omega)) (hmk_lt (by omega) (by omega)) key).2.1
  unfold Tbl.put at hok hmem ⊢
  split at hok
  · rename_i hm
    rw [if_pos hm] at hmem ⊢
    exact St.put_get hok.inv (by omega) (by omega) hmem hsl
  · rename_i hm
    rw [if_neg hm] at hmem ⊢
    split at hok
    · rename_i hg
      rw [if_pos hg] at hmem ⊢
      exact St.put_get hok.inv (by omega) (by omega) hmem hsg
    · rename_i hg
      rw [if_neg hg] at hmem ⊢
      exact St.put_get hok.inv (by omega) (by omega) hmem hsl
end
end Go.Proofs.YtkjeobcfaolcaaaDoor
/- The document's home, by contract. -/
namespace Go.Proofs.YtkjeobcfaolcaaaDoor
open Go.RowKit
set_option maxHeartbeats 2000000
set_option linter.unusedVariables false
set_option linter.unusedSimpArgs false

theorem pow_le62 {b : Nat} (h : b ≤ 62) : 2 ^ b ≤ 4611686018427387904 := Nat.le_trans (Nat.pow_le_pow_right (by omega) h) (by decide)
theorem pow_ge8 {b : Nat} (h : 3 ≤ b) : 8 ≤ 2 ^ b := Nat.le_trans (show 8 ≤ 2 ^ 3 by decide) (Nat.pow_le_pow_right (by decide) h)
theorem rHome_yes {key : Int} {k : Nat} {w : World} (h1 : 3 ≤ k) (h2 : k ≤ 62) : Calls Tryd.prog 10 #[.int .u64 key, .int .i64 ((2 ^ k : Nat) : Int)] w fun e w' => e = .returned (.tuple #[.int .i64 (homeOf key k), .int .i64 0]) ∧ w = w' := by
  have hbd := homeOf_bd key (show 1 ≤ k by omega) h2
  have hq := pow_le62 h2
  have hq2 : (2 : Int) ^ k ≤ 4611686018427387904 := by
    have : 2 ^ k ≤ 2 ^ 62 := Nat.pow_le_pow_right (by omega) h2
    have h3 : ((2 ^ k : Nat) : Int) ≤ ((2 ^ 62 : Nat) : Int) := by omega
    simpa using h3
  have hwr : wrap64 (IntKind.u64.wrap (key * 11400714819323198485) / 2 ^ (64 - k)) = IntKind.u64.wrap (key * 11400714819323198485) / 2 ^ (64 - k) := by
    show wrap64 (homeOf key k) = homeOf key k
    exact IntWalk.wrap64_in _ (by omega)
  have hwr := Lib.hid hwr
  have hS : Hid (∀ b, b < k → (2 ^ b : Nat) < 2 ^ k) := Lib.hid fun b hb => Nat.pow_lt_pow_right (by decide) hb
  have h8 := pow_ge8 h1
  have hhe : Hid (homeOf key k = IntKind.u64.wrap (key * 11400714819323198485) / 2 ^ (64 - k)) := Lib.hid rfl
  clear hbd hq2
  obtain ⟨sl, hsl⟩ : ∃ sl, 2 ^ k = sl := ⟨_, rfl⟩
  rw [hsl] at hS hq h8 ⊢
  have hsl := Lib.hid hsl
  go_enter Tryd.func10, Tryd.ntmps10
  go_wp2
  go_loopg [6, 7] (k - 3) (fun gk c6 c7 wr => ∃ b p : Nat, gk + b = k ∧ 3 ≤ b ∧ Hid (2 ^ b = p) ∧ c6 = .int .i64 (p : Int) ∧ c7 = .int .i64 (b : Int) ∧ wr = w)
  case atStart => exact ⟨3, 8, by omega, by omega, Lib.hid rfl, rfl, rfl, rfl⟩
  case round =>
    obtain ⟨b, p, hgk, hb3, hp, rfl, rfl, rfl⟩ := hrel
    by_cases hbk : b < k
    · have hlt := hS.out b hbk
      rw [hp.out] at hlt
      have z1 : decide (p < sl) = true := decide_eq_true hlt
      have z1' : decide ((p : Int) < (sl : Int)) = true := decide_eq_true (by omega)
      have z2 : decide ((b : Int) < 62) = true := decide_eq_true (by omega)
      have hpl : (p : Int) ≤ 4611686018427387904 := by omega
      have hb62 : (b : Int) ≤ 61 := by omega
      obtain ⟨g, rfl⟩ : ∃ g, gk = g + 1 := ⟨gk - 1, by omega⟩
      have hp2 : Hid (2 ^ (b + 1) = 2 * p) := Lib.hid (by rw [Nat.pow_succ, hp.out]; omega)
      go_wp2
      go_roundg g
      case measure => omega
      case rel => exact ⟨b + 1, 2 * p, by omega, by omega, hp2, by first | rfl | go_num | (simp; rfl), by first | rfl | go_num | (simp; rfl), rfl⟩
    · obtain rfl : b = k := by omega
      obtain rfl : p = sl := hp.out.symm.trans hsl.out
      have z1 : decide (p < p) = false := decide_eq_false (by omega)
      have hb62 : (b : Int) ≤ 62 := by omega
      have hb3' : (3 : Int) ≤ b := by omega
      go_wp2
      go_ret2
      refine ⟨?_, rfl⟩
      rw [hhe.out]
      first | rfl | (rw [← hwr.out]; rfl) | (simp [hwr.out])
theorem rHome_no {key s : Int} {w : World} (h1 : -9223372036854775808 ≤ s) (h2 : s ≤ 9223372036854775807) (hn : ∀ k, ¬ isSlots s k) : Calls Tryd.prog 10 #[.int .u64 key, .int .i64 s] w fun e w' => e = .returned (.tuple #[.int .i64 0, .int .i64 2]) ∧ w = w' := by
  have hn := Lib.hid hn
  go_enter Tryd.func10, Tryd.ntmps10
  go_wp2
  go_loopg [6, 7] 59 (fun gk c6 c7 wr => ∃ b p : Nat, gk + b = 62 ∧ 3 ≤ b ∧ Hid (2 ^ b = p) ∧ c6 = .int .i64 (p : Int) ∧ c7 = .int .i64 (b : Int) ∧ wr = w)
  case atStart => exact ⟨3, 8, by omega, by omega, Lib.hid rfl, rfl, rfl, rfl⟩
  case round =>
    obtain ⟨b, p, hgk, hb3, hp, rfl, rfl, rfl⟩ := hrel
    have hpl := pow_le62 (show b ≤ 62 by omega)
    rw [hp.out] at hpl
    have hpl' : (p : Int) ≤ 4611686018427387904 := by omega
    have hne : ((p : Int) != s) = true := by
      simp only [bne_iff_ne, ne_eq]
      intro e
      exact hn.out b ⟨hb3, by omega, by rw [hp.out]; exact e.symm⟩
    by_cases hlt : (p : Int) < s
    · have z1 : decide ((p : Int) < s) = true := decide_eq_true hlt
      by_cases hb : b < 62
      · have z2 : decide ((b : Int) < 62) = true := decide_eq_true (by omega)
        obtain ⟨g, rfl⟩ : ∃ g, gk = g + 1 := ⟨gk - 1, by omega⟩
        have hp2 : Hid (2 ^ (b + 1) = 2 * p) := Lib.hid (by rw [Nat.pow_succ, hp.out]; omega)
        have hb62 : (b : Int) ≤ 61 := by omega
        have hq61 := pow_le62 (show b + 1 ≤ 62 by omega)
        rw [hp2.out] at hq61
        have hq61 : (2 * p : Int) ≤ 4611686018427387904 := by omega
        have hwp : wrap64 (2 * (p : Int)) = ((2 * p : Nat) : Int) := by rw [IntWalk.wrap64_in _ (by omega)]; rfl
        go_wp2
        go_roundg g
        case measure => omega
        case rel => exact ⟨b + 1, 2 * p, by omega, by omega, hp2, by first | rfl | go_num | (simp [hwp]), by first | rfl | go_num | (simp; rfl), rfl⟩
      · have z2 : decide ((b : Int) < 62) = false := decide_eq_false (by omega)
        go_wp2
        go_ret2
        exact ⟨rfl, rfl⟩
    · have z1 : decide ((p : Int) < s) = false := decide_eq_false hlt
      go_wp2
      go_ret2
      exact ⟨rfl, rfl⟩
end Go.Proofs.YtkjeobcfaolcaaaDoor
/- The document's table: its slots; behind, look, Get, by contract. -/
namespace Go.Proofs.YtkjeobcfaolcaaaDoor
open Go.RowKit
set_option maxHeartbeats 4000000
set_option linter.unusedVariables false
set_option linter.unusedSimpArgs false

/-- sl slots of the document's: used, key, value -/
def SltR (w : World) (g sl : Nat) (U : Nat → Bool) (K : Nat → Int) (X : Nat → Value) : Prop :=
  ∃ cs, Blk w g 107 cs ∧ ∀ i, i < sl → cs[i * 3]? = some (.bool (U i)) ∧ cs[i * 3 + 1]? = some (.int .u64 (K i)) ∧ cs[i * 3 + 2]? = some (X i)
section
variable {w w' : World} {g sl : Nat} {U : Nat → Bool} {K : Nat → Int} {X : Nat → Value}
theorem SltR.at_ (h : SltR w g sl U K X) : SlotsAt w g sl U K := by
  obtain ⟨cs, hb, hc⟩ := h
  intro i hi
  obtain ⟨h1, h2, _⟩ := hc i hi
  exact ⟨(Blk.cell hb _).trans h1, (Blk.cell hb _).trans h2⟩
theorem SltR.val (h : SltR w g sl U K X) {i : Nat} (hi : i < sl) : w.cell? ⟨g, i * 3 + 2, none⟩ = some (X i) ∧ ∀ n, w.frozen? ⟨g, n, none⟩ = false := by
  obtain ⟨cs, hb, hc⟩ := h
  exact ⟨(Blk.cell hb _).trans (hc i hi).2.2, fun n => Blk.frozen hb n⟩
theorem SltR.lt (h : SltR w g sl U K X) : g < w.heap.size := by obtain ⟨cs, hb, _⟩ := h; exact hb.lt
theorem SltR.alloc (h : SltR w g sl U K X) (o : Obj) : SltR (w.alloc o) g sl U K X := by obtain ⟨cs, hb, hc⟩ := h; exact ⟨cs, hb.alloc o, hc⟩
theorem SltR.drewN (h : SltR w g sl U K X) (n : Nat) : SltR (w.drewN n) g sl U K X := h
theorem SltR.fr {F F' : Nat → Prop} (h : SltR w g sl U K X) (hf : Fr F w F' w') (hF : ¬ F g) : SltR w' g sl U K X := by obtain ⟨cs, hb, hc⟩ := h; exact ⟨cs, hf.blk hb hF, hc⟩
theorem SltR.far (h : SltR w g sl U K X) {p : Addr} (hp : g ≠ p.block) (u : Value) : SltR (w.setCell p u) g sl U K X := by obtain ⟨cs, hb, hc⟩ := h; exact ⟨cs, hb.far hp u, hc⟩
theorem SltR.put3 (h : SltR w g sl U K X) {j : Nat} (hj : j < sl) (b : Bool) (key : Int) (x : Value) :
    SltR (((w.setCell ⟨g, j * 3, none⟩ (.bool b)).setCell ⟨g, j * 3 + 1, none⟩ (.int .u64 key)).setCell ⟨g, j * 3 + 2, none⟩ x) g sl (fun i => if i = j then b else U i) (fun i => if i = j then key else K i) (fun i => if i = j then x else X i) := by
  obtain ⟨cs, hb, hc⟩ := h
  refine ⟨_, ((hb.set_ (j * 3) (.bool b)).set_ (j * 3 + 1) (.int .u64 key)).set_ (j * 3 + 2) x, fun i hi => ?_⟩
  obtain ⟨c0, c1, c2⟩ := hc i hi
  obtain ⟨j0, j1, j2⟩ := hc j hj
  have s0 := (Array.getElem?_eq_some_iff.1 j0).1
  have s1 := (Array.getElem?_eq_some_iff.1 j1).1
  have s2 := (Array.getElem?_eq_some_iff.1 j2).1
  by_cases e : i = j
  · subst e
    simp [Array.getElem?_setIfInBounds, s0, s1, s2]
  · have a0 : j * 3 ≠ i * 3 := by omega
    have a1 : j * 3 + 1 ≠ i * 3 := by omega
    have a2 : j * 3 + 2 ≠ i * 3 := by omega
    have b0 : j * 3 ≠ i * 3 + 1 := by omega
    have b1 : j * 3 + 1 ≠ i * 3 + 1 := by omega
    have b2 : j * 3 + 2 ≠ i * 3 + 1 := by omega
    have d0 : j * 3 ≠ i * 3 + 2 := by omega
    have d1 : j * 3 + 1 ≠ i * 3 + 2 := by omega
    have d2 : j * 3 + 2 ≠ i * 3 + 2 := by omega
    simp only [Array.getElem?_setIfInBounds, a0, a1, a2, b0, b1, b2, d0, d1, d2, if_false, if_neg e]
    exact ⟨c0, c1, c2⟩
end
def HolR (w : World) (g sl : Nat) (s : St Int) : Prop := SltR w g sl s.U s.K (fun i => .int .u64 (s.X i))
theorem updR (s : St Int) (j : Nat) (y : Int) : (fun i => if i = j then Value.int .u64 y else Value.int .u64 (s.X i)) = fun i => Value.int .u64 (if i = j then y else s.X i) := by
  funext i
  split <;> rfl
theorem HolR.set {w : World} {g sl : Nat} {s : St Int} (h : HolR w g sl s) {j : Nat} (hj : j < sl) (key : Int) (x : Int) :
    HolR (((w.setCell ⟨g, j * 3, none⟩ (.bool true)).setCell ⟨g, j * 3 + 1, none⟩ (.int .u64 key)).setCell ⟨g, j * 3 + 2, none⟩ (.int .u64 x)) g sl (s.set j key x) := by
  have := SltR.put3 h hj true key (.int .u64 x)
  rw [updR] at this
  exact this
theorem HolR.clear {w : World} {g sl : Nat} {s : St Int} (h : HolR w g sl s) {j : Nat} (hj : j < sl) :
    HolR (((w.setCell ⟨g, j * 3, none⟩ (.bool false)).setCell ⟨g, j * 3 + 1, none⟩ (.int .u64 0)).setCell ⟨g, j * 3 + 2, none⟩ (.int .u64 0)) g sl (s.clear j 0) := by
  have := SltR.put3 h hj false 0 (.int .u64 0)
  rw [updR] at this
  exact this
theorem behind_b {t g sl cz i : Nat} {c1 : Value} {w : World} (ht : Blk w t 68 #[.slice (some ⟨g, 0, none⟩) sl cz, c1]) (hi : i < sl) (hsl : sl ≤ 4611686018427387904) :
    Calls Tryd.prog 80 #[.pointer (some ⟨t, 0, none⟩), .int .i64 (i : Int)] w fun e w' => e = .returned (.int .i64 (((i + 1) % sl : Nat) : Int)) ∧ w = w' := by
  have d0 : w.cell? ⟨t, 0, none⟩ = some (.slice (some ⟨g, 0, none⟩) sl cz) := ht.cell 0
  have hi' : (i : Int) ≤ 4611686018427387904 := by omega
  clear ht
  obtain ⟨q, hq, h⟩ := nxq hi
  rw [hq]
  rcases h with ⟨h, rfl⟩ | ⟨h, rfl⟩
  · obtain ⟨x, hx⟩ : ∃ x : Int, Hid (x = (i : Int)) := ⟨_, Lib.hid rfl⟩
    have hxs : x + 1 = (sl : Int) := by have := hx.out; omega
    have hx0 : 0 ≤ x := by have := hx.out; omega
    have hxl : x ≤ 4611686018427387904 := by have := hx.out; omega
    rw [← hx.out]
    obtain ⟨z, hz⟩ : ∃ z : Int, z = (sl : Int) := ⟨_, rfl⟩
    rw [← hz] at hxs
    clear h hq hi hi' hsl
    subst hxs
    go_enter Tryd.func80, Tryd.ntmps80
    go_wp2
    go_ret
    exact ⟨rfl, rfl⟩
  · have hx : (((i : Int) + 1) == (sl : Int)) = false := by simp; omega
    have h := Lib.hid h
    clear hq hi hsl
    go_enter Tryd.func80, Tryd.ntmps80
    go_wp2
    go_ret
    exact ⟨by simp, rfl⟩
set_option maxRecDepth 100000 in
theorem lookR_b {t g k fuel j m cz : Nat} {key : Int} {U : Nat → Bool} {K : Nat → Int} {c1 : Value} {w : World} (ht : Blk w t 68 #[.slice (some ⟨g, 0, none⟩) (2 ^ k : Nat) cz, c1])
    (hS : SlotsAt w g (2 ^ k) U K) (h1 : 3 ≤ k) (h2 : k ≤ 43) (hf : fuel ≤ 4611686018427387904) (hl : lgo U K key (2 ^ k) fuel (homeOf key k).toNat 1 = some (j, m)) :
    Calls Tryd.prog 71 #[.pointer (some ⟨t, 0, none⟩), .int .u64 key] w fun e w' => e = .returned (.tuple #[.int .i64 (j : Int), .int .i64 (m : Int)]) ∧ w = w' := by
  have C := rHome_yes (key := key) (w := w) h1 (by omega)
  have hbd := homeOf_bd key (show 1 ≤ k by omega) (show k ≤ 62 by omega)
  obtain ⟨i0, hi0⟩ : ∃ i0 : Nat, homeOf key k = (i0 : Int) := ⟨(homeOf key k).toNat, by omega⟩
  have hlt0 : i0 < 2 ^ k := by
    have : ((2 ^ k : Nat) : Int) = (2 : Int) ^ k := by simp
    omega
  rw [hi0] at C hl
  have hl : lgo U K key (2 ^ k) fuel i0 1 = some (j, m) := hl
  have C := Lib.hid C
  have hq : 2 ^ k ≤ 2 ^ 43 := Nat.pow_le_pow_right (by omega) h2
  have d0 : w.cell? ⟨t, 0, none⟩ = some (.slice (some ⟨g, 0, none⟩) (2 ^ k : Nat) cz) := ht.cell 0
  have hbh : Hid (∀ i : Nat, i < 2 ^ k → Calls Tryd.prog 80 #[.pointer (some ⟨t, 0, none⟩), .int .i64 (i : Int)] w fun e w' => e = .returned (.int .i64 (((i + 1) % 2 ^ k : Nat) : Int)) ∧ w = w') := Lib.hid fun i hi => behind_b ht hi (by omega)
  clear ht h1 h2 hbd hi0
  have hq0 := Nat.two_pow_pos k
  generalize 2 ^ k = sl at *
  have hS := Lib.hid hS
  go_enter Tryd.func71, Tryd.ntmps71
  go_wp2_with fail
  refine C.out.mono ?_
  rintro _ w2 ⟨rfl, rfl⟩
  go_wp2
  go_loopw [6, 8] (fun iv nv wr => ∃ f i n : Nat, iv = .int .i64 i ∧ nv = .int .i64 n ∧ n + f = fuel + 1 ∧ i < sl ∧ Hid (lgo U K key sl f i n = some (j, m)) ∧ Hid (wr = w)) (fun _ nv _ => fuel + 1 - (intOf nv).toNat)
  case atStart => exact ⟨fuel, i0, 1, rfl, rfl, by omega, hlt0, Lib.hid hl, Lib.hid rfl⟩
  case round =>
    clear hl hlt0
    obtain ⟨f, i, n, rfl, rfl, hfn, hi, hlg, hw⟩ := hrel
    obtain ⟨f, rfl⟩ : ∃ f', f = f' + 1 := by
      cases f with
      | zero => have := hlg.out; simp [lgo] at this
      | succ f => exact ⟨f, rfl⟩
    obtain ⟨dU, dK⟩ := hS.out i hi
    rw [← hw.out] at dU dK d0
    have hi' : (i : Int) ≤ 4611686018427387903 := by omega
    have hn' : (n : Int) ≤ 4611686018427387904 := by omega
    have hz : decide (i < sl) = true := decide_eq_true hi
    have hlg := hlg.out
    rw [lgo] at hlg
    by_cases hp : (U i && K i != key) = true
    · rw [if_pos hp] at hlg
      simp only [Bool.and_eq_true] at hp
      obtain ⟨hu, hk⟩ := hp
      rw [hu] at dU
      have hlg := Lib.hid hlg
      have hB := hbh.out i hi
      rw [← hw.out] at hB
      have hB := Lib.hid hB
      go_wp2_with fail
      refine hB.out.mono ?_
      rintro _ w3 ⟨rfl, rfl⟩
      go_wp2
      go_roundw
      case rel => exact ⟨f, (i + 1) % sl, n + 1, by simp, by simp, by omega, Nat.mod_lt _ hq0, hlg, hw⟩
      case measure => simp [intOf]; omega
    · rw [if_neg hp] at hlg
      simp only [Option.some.injEq, Prod.mk.injEq] at hlg
      obtain ⟨rfl, rfl⟩ := hlg
      by_cases hu : U i = true
      · rw [hu] at dU
        have hk : (K i != key) = false := by rw [hu] at hp; simpa using hp
        go_wp2
        go_ret2
        exact ⟨rfl, hw.out.symm⟩
      · have hu : U i = false := by simpa using hu
        rw [hu] at dU
        go_wp2
        go_ret2
        exact ⟨rfl, hw.out.symm⟩
set_option maxRecDepth 100000 in
theorem getR_b {t g k fuel j m cz : Nat} {key : Int} {U : Nat → Bool} {K : Nat → Int} {X : Nat → Value} {c1 : Value} {w : World} (ht : Blk w t 68 #[.slice (some ⟨g, 0, none⟩) (2 ^ k : Nat) cz, c1])
    (hS : SltR w g (2 ^ k) U K X) (h1 : 3 ≤ k) (h2 : k ≤ 43) (hf : fuel ≤ 4611686018427387904) (hl : lgo U K key (2 ^ k) fuel (homeOf key k).toNat 1 = some (j, m)) (hj : j < 2 ^ k) :
    Calls Tryd.prog 39 #[.pointer (some ⟨t, 0, none⟩), .int .u64 key] w fun e w' => e = .returned (.tuple #[X j, .bool (U j)]) ∧ ∃ n, w' = w.drewN n := by
  have C := Lib.hid (lookR_b ht hS.at_ h1 h2 hf hl)
  have d0 : w.cell? ⟨t, 0, none⟩ = some (.slice (some ⟨g, 0, none⟩) (2 ^ k : Nat) cz) := ht.cell 0
  have dU := (hS.at_ j hj).1
  have dX := (hS.val hj).1
  have hjl : decide (j < 2 ^ k) = true := decide_eq_true hj
  clear ht hS hf hl h1 h2
  generalize 2 ^ k = sl at *
  generalize X j = x at *
  generalize U j = u at *
  go_enter Tryd.func39, Tryd.ntmps39
  go_wp2_with fail
  refine C.out.mono ?_
  rintro _ w2 ⟨rfl, rfl⟩
  go_wp2
  refine wp_region_mix (fun _ => True) [3, 3, 3, 1, 3, 3, 3, 1, 3, 3, 3, 1, 3, 3, 3, 1, 3, 3] (List.range 18) (by kernel_rfl) (by kernel_rfl) (fun _ _ h => h) trivial ?_
  repeat ((first | refine wpMix_pure rfl rfl (fun K hK => ?_) | refine wpMix_loc rfl rfl (fun K hK => ?_) | refine wpMix_any rfl rfl (fun K hK => ?_)); go_simp; refine hK _ _ ?_; clear hK K)
  refine wpMix_nil (fun n1 => ?_)
  go_wp2
  go_ret2
  exact ⟨rfl, 1 + n1, drewN_drewN w 1 n1⟩
end Go.Proofs.YtkjeobcfaolcaaaDoor
