/- Take, by contract (a table of string). -/
import Derived.Test.YtkjeobcfaolcaaaDoorIxUS
import Derived.Test.YtkjeobcfaolcaaaDoorIxV
import Derived.Test.YtkjeobcfaolcaaaDoorIxT3
namespace Go.Proofs.YtkjeobcfaolcaaaDoor
open Go.RowKit Go.Shelf
set_option maxHeartbeats 8000000
set_option linter.unusedVariables false
set_option linter.unusedSimpArgs false

theorem Slt.put3 {w : World} {g sl : Nat} {U : Nat → Bool} {K : Nat → Int} {X : Nat → Value} (h : Slt w g sl U K X) {j : Nat} (hj : j < sl) (b : Bool) (key : Int) (x : Value) {n : Nat} :
    Slt ((((w.drewN n).setCell ⟨g, j * 3, none⟩ (.bool b)).setCell ⟨g, j * 3 + 1, none⟩ (.int .u64 key)).setCell ⟨g, j * 3 + 2, none⟩ x) g sl (fun i => if i = j then b else U i) (fun i => if i = j then key else K i) (fun i => if i = j then x else X i) := by
  obtain ⟨cs, hb, hc⟩ := h
  refine ⟨_, (((hb.drewN n).set_ (j * 3) (.bool b)).set_ (j * 3 + 1) (.int .u64 key)).set_ (j * 3 + 2) x, fun i hi => ?_⟩
  obtain ⟨c0, c1, c2⟩ := hc i hi
  obtain ⟨j0, j1, j2⟩ := hc j hj
  have s0 := (Array.getElem?_eq_some_iff.1 j0).1
  have s1 := (Array.getElem?_eq_some_iff.1 j1).1
  have s2 := (Array.getElem?_eq_some_iff.1 j2).1
  by_cases e : i = j
  · subst e
    simp [Array.getElem?_setIfInBounds, s0, s1, s2]
  · have a0 : j * 3 ≠ i * 3 := by omega
    have a1 : j * 3 + 1 ≠ i * 3 := by omega
    have a2 : j * 3 + 2 ≠ i * 3 := by omega
    have b0 : j * 3 ≠ i * 3 + 1 := by omega
    have b1 : j * 3 + 1 ≠ i * 3 + 1 := by omega
    have b2 : j * 3 + 2 ≠ i * 3 + 1 := by omega
    have d0 : j * 3 ≠ i * 3 + 2 := by omega
    have d1 : j * 3 + 1 ≠ i * 3 + 2 := by omega
    have d2 : j * 3 + 2 ≠ i * 3 + 2 := by omega
    simp only [Array.getElem?_setIfInBounds, a0, a1, a2, b0, b1, b2, d0, d1, d2, if_false, if_neg e]
    exact ⟨c0, c1, c2⟩
theorem HolS.clear {w : World} {g sl : Nat} {s : St ByteArray} (h : HolS w g sl s) {j : Nat} (hj : j < sl) (z : ByteArray) (n : Nat) :
    HolS ((((w.drewN n).setCell ⟨g, j * 3, none⟩ (.bool false)).setCell ⟨g, j * 3 + 1, none⟩ (.int .u64 0)).setCell ⟨g, j * 3 + 2, none⟩ (Value.string z)) g sl (s.clear j z) := by
  have := Slt.put3 h hj false 0 (Value.string z) (n := n)
  rw [updS] at this
  exact this
theorem HolS.frs {F F' : Nat → Prop} {w w' : World} {g sl : Nat} {s : St ByteArray} (h : HolS w g sl s) (hf : Fr F w F' w') (hF : ¬ F g) : HolS w' g sl s := Slt.fr h hf hF
set_option maxRecDepth 100000 in
theorem takeS_no {t g k cz : Nat} {key : Int} {s : St ByteArray} {c1 : Value} {l : List Int} {w : World} (hT : Tab w) (ht : Blk w t 77 #[.slice (some ⟨g, 0, none⟩) (2 ^ k : Nat) cz, c1])
    (hS : HolS w g (2 ^ k) s) (hI : s.Inv k l) (h1 : 1 ≤ k) (h2 : k ≤ 41) (hk : key ∉ l) :
    Calls Tryd.prog 19 #[.pointer (some ⟨t, 0, none⟩), .int .u64 key] w fun e w' => e = .returned (.tuple #[Value.string (s.X (s.slot k key)), .bool false]) ∧ ∃ n, w' = w.drewN n := by
  obtain ⟨hl0, hj0, _, _, hio⟩ := TInv.look hI (hmk_lt h1 (by omega)) key
  have hu0 : s.U (s.slot k key) = false := by
    rcases hio with ⟨h, _⟩ | ⟨_, h, _⟩
    · exact (hk h).elim
    · exact h
  have G := Lib.hid (getS_b hT ht hS h1 (by omega) (Nat.le_trans (Nat.pow_le_pow_right (by omega) h2) (by decide)) hl0 hj0)
  replace hj0 : s.slot k key < 2 ^ k := hj0
  have G : Hid (Calls Tryd.prog 53 #[.pointer (some ⟨t, 0, none⟩), .int .u64 key] w fun e w' => e = .returned (.tuple #[Value.string (s.X (s.slot k key)), .bool false]) ∧ ∃ n, w' = w.drewN n) := Lib.hid (by
    have := G.out
    rw [show s.U (slotOf s.U s.K (2 ^ k) (hmk k key) key) = false from hu0] at this
    exact this)
  clear hT ht hS hI hl0 hio hu0 hj0
  generalize s.X (s.slot k key) = x at *
  go_enter Tryd.func19, Tryd.ntmps19
  go_wp2_with fail
  refine G.out.mono ?_
  rintro _ w2 ⟨rfl, n, rfl⟩
  go_wp2
  go_ret2
  exact ⟨rfl, _, rfl⟩
set_option maxRecDepth 100000 in
theorem takeS_yes {t g k cz : Nat} {key : Int} {s : St ByteArray} {A : Option Addr} {cp : Nat} {l : List Int} {w : World} (hT : Tab w) (ht : Blk w t 77 #[.slice (some ⟨g, 0, none⟩) (2 ^ k : Nat) cz, .slice A l.length cp])
    (hS : HolS w g (2 ^ k) s) (hv : Wl w (.slice A l.length cp) l) (hI : s.Inv k l) (h1 : 1 ≤ k) (h2 : k ≤ 41) (hk : key ∈ l) (hlen : l.length * 8 ≤ 140737488355328) :
    Calls Tryd.prog 19 #[.pointer (some ⟨t, 0, none⟩), .int .u64 key] w fun e w' => e = .returned (.tuple #[Value.string (s.X (s.slot k key)), .bool true]) ∧
      Blk w' t 77 #[.slice (some ⟨g, 0, none⟩) (2 ^ k : Nat) cz, .slice A (l.length - 1) cp] ∧ HolS w' g (2 ^ k) (s.take k ⟨#[]⟩ key) ∧ Wl w' (.slice A (l.length - 1) cp) (l.filter (· != key)) ∧
        Fr (fun b => b = t ∨ b = g ∨ own (.slice A l.length cp) b) w (fun b => b = t ∨ b = g ∨ own (.slice A l.length cp) b) w' := by
  have hsq : (2 : Nat) ^ k ≤ 2 ^ 41 := Nat.pow_le_pow_right (by omega) h2
  have hn2 : 2 ≤ 2 ^ k := Nat.le_trans (show 2 ≤ 2 ^ 1 by decide) (Nat.pow_le_pow_right (by decide) h1)
  obtain ⟨hl0, hj0, _, _, hio⟩ := TInv.look hI (hmk_lt h1 (by omega)) key
  obtain ⟨hu0, hk0⟩ : s.U (s.slot k key) = true ∧ s.K (s.slot k key) = key := by
    rcases hio with ⟨_, h, h'⟩ | ⟨h, _⟩
    · exact ⟨h, h'⟩
    · exact (h hk).elim
  replace hj0 : s.slot k key < 2 ^ k := hj0
  obtain ⟨en, hen, hue⟩ := TInv.free hI
  have hh0 := Lib.hid (TInv.hole (z := ⟨#[]⟩) (s := s) hI hj0 hu0 hk0 hn2 hen hue)
  have htk : Hid (s.take k ⟨#[]⟩ key = St.shift (2 ^ k) (hmk k) ⟨#[]⟩ (2 ^ k) (s.clear (s.slot k key) ⟨#[]⟩) (s.slot k key) ((s.slot k key + 1) % 2 ^ k)) := Lib.hid rfl
  have G : Hid (Calls Tryd.prog 53 #[.pointer (some ⟨t, 0, none⟩), .int .u64 key] w fun e w' => e = .returned (.tuple #[Value.string (s.X (s.slot k key)), .bool true]) ∧ ∃ n, w' = w.drewN n) := Lib.hid (by
    have := getS_b hT ht hS h1 (by omega) (Nat.le_trans hsq (by decide)) hl0 hj0
    rw [show s.U (slotOf s.U s.K (2 ^ k) (hmk k key) key) = true from hu0] at this
    exact this)
  have C : Hid (∀ n, Calls Tryd.prog 48 #[.pointer (some ⟨t, 0, none⟩), .int .u64 key] (w.drewN n) fun e w' => e = .returned (.tuple #[.int .i64 (s.slot k key : Int), .int .i64 (s.asked k key : Int)]) ∧ w.drewN n = w') := Lib.hid fun n =>
    lookS_b (hT.drewNS n) (ht.drewN n) (Slt.at_ (Slt.drewN hS n)) h1 (by omega) (Nat.le_trans hsq (by decide)) hl0
  have HM : Hid (∀ W x, Tab W → Calls Tryd.prog 42 #[.int .u64 x, .int .i64 ((2 ^ k : Nat) : Int)] W fun e w' => e = .returned (.int .i64 (hmk k x : Int)) ∧ W = w') := Lib.hid fun W x hW => by
    have := home_b (key := x) h1 (by omega) hW
    have hb := homeOf_bd x h1 (k := k) (by omega)
    rw [show ((hmk k x : Nat) : Int) = homeOf x k by unfold hmk; omega]
    exact this
  have BN : Hid (∀ i : Nat, i < 2 ^ k → bits .and .i64 ((i : Int) + 1) (((2 ^ k : Nat) : Int) - 1) = (((i + 1) % 2 ^ k : Nat) : Int)) := Lib.hid fun i hi => bit_next (k := k) (i := i) (Nat.le_trans h2 (by decide)) hi
  have BD : Hid (∀ f h : Nat, f < 2 ^ k → h < 2 ^ k → bits .and .i64 ((f : Int) - (h : Int)) (((2 ^ k : Nat) : Int) - 1) = (dst (2 ^ k) h f : Int)) := Lib.hid fun f h a b => bit_dst (k := k) (f := f) (h := h) (Nat.le_trans h2 (by decide)) a b
  have HB : Hid (∀ x, hmk k x < 2 ^ k) := Lib.hid (hmk_lt h1 (by omega))
  obtain ⟨ix, hix, hixk, hixn⟩ : ∃ i, ∃ (hi : i < l.length), l[i] = key ∧ ∀ j (hj : j < i), l[j]'(by omega) ≠ key := first_at hk
  have hef : Hid (l.eraseIdx ix = l.filter (· != key)) := Lib.hid (by rw [erase_filter hI.nodup hix, hixk])
  have hdl : Hid (dst (2 ^ k) ((s.slot k key + 1) % 2 ^ k) en < 2 ^ k) := Lib.hid (dst_lt (Nat.mod_lt _ (by omega)) hen)
  have T0 := Lib.hid hT
  have B0 := Lib.hid ht
  have S0 := Lib.hid hS
  have V0 := Lib.hid hv
  have hgt : t ≠ g := by obtain ⟨cs, hb, _⟩ := hS; exact Blk.ne_ ht hb (by decide)
  have hvt : ¬ own (.slice A l.length cp) t := Rowv.ne_ hv ht (by decide)
  have hvg : ¬ own (.slice A l.length cp) g := by obtain ⟨cs, hb, _⟩ := hS; exact Rowv.ne_ hv hb (by decide)
  have hT1 : 1 ≠ t := Tab.neS hT ht
  have hTg : 1 ≠ g := by
    rintro rfl
    obtain ⟨cs, hb, hc⟩ := hS
    have h1 := hT 0 (by decide)
    rw [hb.cell 0, (hc 0 (by omega)).1] at h1
    cases h1
  clear hT ht hS hv hl0 hio hu0 hk0 hI hk
  obtain ⟨sl, hsl⟩ : ∃ sl, Hid (sl = 2 ^ k) := ⟨_, Lib.hid rfl⟩
  rw [← hsl.out] at hsq hn2 hj0 hen hh0 htk HM BN BD HB hdl B0 S0
  have hl1 : (l.length : Int) ≤ 17592186044416 := by omega
  have hl2 : (sl : Int) ≤ 2199023255552 := by omega
  rw [← hsl.out]
  generalize s.X (s.slot k key) = x0 at *
  generalize s.slot k key = j0 at *
  generalize s.asked k key = m0 at *
  generalize hmk k = hm at *
  generalize s.take k ⟨#[]⟩ key = fin at *
  clear hsl h1 h2 hue
  have d0 : w.cell? ⟨t, 0, none⟩ = some (.slice (some ⟨g, 0, none⟩) sl cz) := B0.out.cell 0
  have hj0l : decide (j0 < sl) = true := decide_eq_true hj0
  have S1 : Hid (∀ n, HolS ((((w.drewN n).setCell ⟨g, j0 * 3, none⟩ (.bool false)).setCell ⟨g, j0 * 3 + 1, none⟩ (.int .u64 0)).setCell ⟨g, j0 * 3 + 2, none⟩ (Value.string ⟨#[]⟩)) g sl (s.clear j0 ⟨#[]⟩)) := Lib.hid fun n => HolS.clear S0.out hj0 ⟨#[]⟩ n
  have M1 : Hid (∀ n, Fr (fun b => b = g) w (fun b => b = g) ((((w.drewN n).setCell ⟨g, j0 * 3, none⟩ (.bool false)).setCell ⟨g, j0 * 3 + 1, none⟩ (.int .u64 0)).setCell ⟨g, j0 * 3 + 2, none⟩ (Value.string ⟨#[]⟩))) := Lib.hid fun n =>
    ((((Fr.refl (fun b => b = g) w).drewN n).set (p := ⟨g, _, none⟩) (.inl rfl) _).set (p := ⟨g, _, none⟩) (.inl rfl) _).set (p := ⟨g, _, none⟩) (.inl rfl) _
  have dU := (Slt.at_ S0.out _ hj0).1
  have dK := (Slt.at_ S0.out _ hj0).2
  have dX := (Slt.val S0.out hj0).1
  have dz := (Slt.val S0.out hj0).2
  have z0 := dz (j0 * 3)
  have z1 := dz (j0 * 3 + 1)
  have z2 := dz (j0 * 3 + 2)
  have hbn0 := BN.out j0 hj0
  have hj0i : (j0 : Int) ≤ 2199023255552 := by omega
  clear dz S0
  go_enter Tryd.func19, Tryd.ntmps19
  go_wp2_with fail
  refine G.out.mono ?_
  rintro _ w2 ⟨rfl, n1, rfl⟩
  go_wp2_with fail
  refine (C.out n1).mono ?_
  rintro _ w3 ⟨rfl, rfl⟩
  clear G C
  go_wp2
  go_loopw [8, 11] (fun f kk wr => ∃ (fn kn r : Nat) (s' : St ByteArray), f = .int .i64 fn ∧ kk = .int .i64 kn ∧ fn < sl ∧ kn < sl ∧ dst sl kn en < r ∧ Hid (HolS wr g sl s' ∧ Sh sl hm s' fn kn en (l.filter (· != key)) ∧ fin = St.shift sl hm ⟨#[]⟩ r s' fn kn ∧ Fr (fun b => b = g) w (fun b => b = g) wr)) (fun _ kk _ => dst sl (intOf kk).toNat en)
  case atStart => exact ⟨j0, (j0 + 1) % sl, sl, s.clear j0 ⟨#[]⟩, rfl, rfl, hj0, Nat.mod_lt _ (by omega), hdl.out, Lib.hid ⟨S1.out n1, hh0.out, htk.out, M1.out n1⟩⟩
  case round =>
    clear S1 M1 hh0 htk hdl dU dK dX z0 z1 z2 hbn0 d0 hj0l hj0i
    obtain ⟨fn, kn, r, s', rfl, rfl, hfn, hkn, hr, HH⟩ := hrel
    obtain ⟨HS, HSh, hfin, HF⟩ := HH.out
    have B := Lib.hid (HF.blk B0.out hgt)
    have T := Lib.hid (T0.out.keep (HF.block 1 T0.out.lt hTg))
    have dt : wr.cell? ⟨t, 0, none⟩ = some (.slice (some ⟨g, 0, none⟩) sl cz) := B.out.cell 0
    have kU := (Slt.at_ HS _ hkn).1
    have kK := (Slt.at_ HS _ hkn).2
    have kX := (Slt.val HS hkn).1
    have kz := (Slt.val HS hkn).2
    have fU := (Slt.at_ HS _ hfn).1
    have fK := (Slt.at_ HS _ hfn).2
    have fX := (Slt.val HS hfn).1
    have hfl : decide (fn < sl) = true := decide_eq_true hfn
    have hkl : decide (kn < sl) = true := decide_eq_true hkn
    have hfi : (fn : Int) ≤ 2199023255552 := by omega
    have hki : (kn : Int) ≤ 2199023255552 := by omega
    have hbn := BN.out kn hkn
    by_cases hu : s'.U kn = true
    · rw [hu] at kU
      have hh := HB.out (s'.K kn)
      have hb1 := BD.out fn _ hfn hh
      have hb2 := BD.out kn _ hkn hh
      have HH2 := Lib.hid hu
      have hne := HSh.ne
      have hdf : Hid (hm (s'.K kn) = hm (s'.K kn)) := Lib.hid rfl
      obtain ⟨h, hhe⟩ : ∃ h, Hid (h = hm (s'.K kn)) := ⟨_, Lib.hid rfl⟩
      have HMk := HM.out
      have HMk : Hid (∀ W, Tab W → Calls Tryd.prog 42 #[.int .u64 (s'.K kn), .int .i64 (sl : Int)] W fun e w' => e = .returned (.int .i64 (h : Int)) ∧ W = w') := Lib.hid fun W hW => by rw [hhe.out]; exact HM.out W _ hW
      rw [← hhe.out] at hh hb1 hb2
      have hhi : (h : Int) ≤ 2199023255552 := by omega
      have hstep : Hid (fin = (if dst sl h fn < dst sl h kn then St.shift sl hm ⟨#[]⟩ (r - 1) (s'.move fn kn ⟨#[]⟩) kn ((kn + 1) % sl) else St.shift sl hm ⟨#[]⟩ (r - 1) s' fn ((kn + 1) % sl))) := Lib.hid (by
        rw [hfin]
        obtain ⟨r', rfl⟩ : ∃ r', r = r' + 1 := ⟨r - 1, by omega⟩
        rw [St.shift, if_pos hu, ← hhe.out]
        rfl)
      have hke : kn ≠ en := fun e => by have := HSh.end_; rw [← e, hu] at this; cases this
      obtain ⟨qn, hqn, hq⟩ := nxq hkn
      have hdq : dst sl qn en < dst sl kn en := by
        unfold dst
        split <;> (split <;> omega)
      have hqs : qn < sl := by rcases hq with ⟨_, h⟩ | ⟨h, h'⟩ <;> omega
      rw [hqn] at hbn
      generalize hda : dst sl h fn = da at *
      generalize hdb : dst sl h kn = db at *
      have hda := Lib.hid hda
      have hdb := Lib.hid hdb
      have hfin := Lib.hid hfin
      have HS := Lib.hid HS
      have HSh := Lib.hid HSh
      have HF := Lib.hid HF
      have hu := Lib.hid hu
      have hqn := Lib.hid hqn
      have hq := Lib.hid hq
      have hdq := Lib.hid hdq
      have kz0 := kz (kn * 3)
      have kz1 := kz (kn * 3 + 1)
      have kz2 := kz (kn * 3 + 2)
      have fz0 := kz (fn * 3)
      have fz1 := kz (fn * 3 + 1)
      have fz2 := kz (fn * 3 + 2)
      clear kz
      go_wp2_with fail
      refine wp_region_mix (fun _ => True) [3, 3, 3, 1, 3, 3, 3, 1, 3, 3, 3, 1, 3, 2, 3] (List.range 15) (by kernel_rfl) (by kernel_rfl) (fun _ _ h => h) trivial ?_
      repeat ((first | refine wpMix_pure rfl rfl (fun K hK => ?_) | refine wpMix_loc rfl rfl (fun K hK => ?_) | refine wpMix_any rfl rfl (fun K hK => ?_)); go_simp; refine hK _ _ ?_; clear hK K)
      refine wpMix_loud rfl rfl (fun n2 K hK => ?_)
      go_wp2_with fail
      refine (HMk.out _ (T.out.drewNS (1 + n2))).mono ?_
      rintro _ w5 ⟨rfl, rfl⟩
      go_wp2_with fail
      refine hK _ _ (fun _ => trivial) ?_; clear hK K
      repeat ((first | refine wpMix_pure rfl rfl (fun K hK => ?_) | refine wpMix_loc rfl rfl (fun K hK => ?_) | refine wpMix_any rfl rfl (fun K hK => ?_)); go_simp; refine hK _ _ ?_; clear hK K)
      refine wpMix_nil (fun n3 => ?_)
      by_cases hc : da < db
      · have hci : ((da : Int) < (db : Int)) := by omega
        go_wp2_with fail
        refine wp_region_mix (fun W' => W'.cell? ⟨t, 0, none⟩ = some (.slice (some ⟨g, 0, none⟩) sl cz) ∧ W'.cell? ⟨g, kn * 3, none⟩ = some (.bool true) ∧ W'.cell? ⟨g, kn * 3 + 1, none⟩ = some (.int .u64 (s'.K kn)) ∧ W'.cell? ⟨g, kn * 3 + 2, none⟩ = some (Value.string (s'.X kn))) [3, 3, 3, 0, 3, 3, 3, 3, 0, 3, 3, 3, 3, 0, 3, 3, 0, 3, 3, 2, 3, 2] (List.range 22) (by kernel_rfl) (by kernel_rfl) (fun _ _ h => h) ⟨dt, kU, kK, kX⟩ ?_
        repeat (first | ((first | refine wpMix_pure rfl rfl (fun K hK => ?_) | refine wpMix_loc rfl rfl (fun K hK => ?_) | refine wpMix_any rfl rfl (fun K hK => ?_)); go_simp; refine hK _ _ ?_; clear hK K) | (refine wpMix_any rfl rfl (fun K hK => ?_); rw [if_pos (by go_simp)]; apply Exists.intro; refine And.intro (fun w2 hS2 => ?_) (hK _ _ ?_); (focus (obtain ⟨hs1, hs2, hs3, hs4⟩ := hS2; go_simp; rfl)); clear hK K))
        refine wpMix_loud rfl rfl (fun n4 K hK => ?_)
        go_wp2
        obtain ⟨w6, hw6⟩ : ∃ u, u = ((((wr.drewN (1 + n2 + n3 + 1 + n4)).setCell ⟨g, fn * 3, none⟩ (.bool true)).setCell ⟨g, fn * 3 + 1, none⟩ (.int .u64 (s'.K kn))).setCell ⟨g, fn * 3 + 2, none⟩ (Value.string (s'.X kn))) := ⟨_, rfl⟩
        have S6 : Hid (HolS w6 g sl (s'.set fn (s'.K kn) (s'.X kn))) := Lib.hid (by rw [hw6]; exact HolS.set HS.out hfn _ _ _)
        have F6 : Hid (Fr (fun b => b = g) w (fun b => b = g) w6) := Lib.hid (by rw [hw6]; exact (((HF.out.drewN _).set (p := ⟨g, _, none⟩) (.inl rfl) _).set (p := ⟨g, _, none⟩) (.inl rfl) _).set (p := ⟨g, _, none⟩) (.inl rfl) _)
        rw [← hw6]
        clear hw6 fU fK fX kU kK kX kz0 kz1 kz2 fz0 fz1 fz2 dt hb1 hb2
        have k0 := (Slt.at_ S6.out _ hkn).1
        have k1 := (Slt.at_ S6.out _ hkn).2
        have k2 := (Slt.val S6.out hkn).1
        have kz := (Slt.val S6.out hkn).2
        have kz0 := kz (kn * 3)
        have kz1 := kz (kn * 3 + 1)
        have kz2 := kz (kn * 3 + 2)
        clear kz
        refine hK _ _ (fun h => (Bool.false_ne_true ((Eq.symm (by kernel_rfl)).trans h)).elim) ?_; clear hK K
        repeat ((first | refine wpMix_pure rfl rfl (fun K hK => ?_) | refine wpMix_loc rfl rfl (fun K hK => ?_) | refine wpMix_any rfl rfl (fun K hK => ?_)); go_simp; refine hK _ _ ?_; clear hK K)
        refine wpMix_loud rfl rfl (fun n5 K hK => ?_)
        go_wp2
        refine hK _ _ (fun h => (Bool.false_ne_true ((Eq.symm (by kernel_rfl)).trans h)).elim) ?_; clear hK K
        refine wpMix_nil (fun n6 => ?_)
        go_wp2
        have hc0 := hc
        rw [hda.out.symm, hdb.out.symm, hhe.out] at hc
        have e1 := HSh.out.moved (z := ⟨#[]⟩) HB.out hu.out hc
        rw [hqn.out] at e1
        have e2 := hstep.out
        rw [if_pos hc0, hqn.out] at e2
        have F7 : Fr (fun b => b = g) w (fun b => b = g) (((((w6.drewN n5).setCell ⟨g, kn * 3, none⟩ (.bool false)).setCell ⟨g, kn * 3 + 1, none⟩ (.int .u64 0)).setCell ⟨g, kn * 3 + 2, none⟩ (Value.string ⟨#[]⟩)).drewN n6) := ((((F6.out.drewN n5).set (p := ⟨g, _, none⟩) (.inl rfl) _).set (p := ⟨g, _, none⟩) (.inl rfl) _).set (p := ⟨g, _, none⟩) (.inl rfl) _).drewN n6
        refine ⟨⟨kn, qn, r - 1, s'.move fn kn ⟨#[]⟩, rfl, rfl, hkn, hqs, by have := hdq.out; omega, Lib.hid ⟨Slt.drewN (HolS.clear S6.out hkn ⟨#[]⟩ n5) n6, e1, e2, F7⟩⟩, ?_⟩
        have := hdq.out
        simpa [intOf] using this
      · have hci : ¬ ((da : Int) < (db : Int)) := by omega
        go_wp2
        have hc0 := hc
        rw [hda.out.symm, hdb.out.symm, hhe.out] at hc
        have e1 := HSh.out.stay HB.out hu.out hc
        rw [hqn.out] at e1
        have e2 := hstep.out
        rw [if_neg hc0, hqn.out] at e2
        refine ⟨⟨fn, qn, r - 1, s', rfl, rfl, hfn, hqs, by have := hdq.out; omega, Lib.hid ⟨Slt.drewN HS.out _, e1, e2, HF.out.drewN _⟩⟩, ?_⟩
        have := hdq.out
        simpa [intOf] using this
    · have hu : s'.U kn = false := by simpa using hu
      rw [hu] at kU
      have hfs : fin = s' := by
        rw [hfin]
        obtain ⟨r', rfl⟩ : ∃ r', r = r' + 1 := ⟨r - 1, by omega⟩
        rw [St.shift, if_neg (by rw [hu]; decide)]
      have hfs := Lib.hid hfs
      have V := Lib.hid (V0.out.frs HF fun j hj => by intro e; exact hvg (e ▸ hj))
      have CI := Lib.hid (idx_b V.out hix hixk hixn hlen)
      obtain ⟨ga, off, rfl, _⟩ := V.out.cell hix
      have CD := Lib.hid (del_b V.out hix hlen)
      have d1 : wr.cell? ⟨t, 1, none⟩ = some (.slice (some ⟨ga, off, none⟩) l.length cp) := B.out.cell 1
      have hixi : (ix : Int) ≤ 17592186044416 := by omega
      have HS := Lib.hid HS
      have HF := Lib.hid HF
      clear fU fK fX kz hfin HSh hbn
      go_wp2_with fail
      refine CI.out.mono ?_
      rintro _ w5 ⟨rfl, rfl⟩
      go_wp2_with fail
      refine CD.out.mono ?_
      rintro _ w5 ⟨rfl, hw5, hm5⟩
      have hga : ∀ q, own (.slice (some ⟨ga, off, none⟩) l.length cp) q ↔ q = ga := fun q => by simp [own, Value.ownBlock, eq_comm]
      have hgat : t ≠ ga := fun e => hvt ((hga t).2 e)
      have hgag : g ≠ ga := fun e => hvg ((hga g).2 e)
      have B5 := Lib.hid (hm5.blk B.out hgat)
      have S5 := Lib.hid (HolS.frs HS.out hm5 hgag)
      have V5 := Lib.hid hw5
      have F5 : Hid (Fr (fun b => b = t ∨ b = g ∨ own (.slice (some ⟨ga, off, none⟩) l.length cp) b) w (fun b => b = t ∨ b = g ∨ own (.slice (some ⟨ga, off, none⟩) l.length cp) b) w5) := Lib.hid ((((HF.out.wide (G := fun b => b = t ∨ b = g ∨ own (.slice (some ⟨ga, off, none⟩) l.length cp) b) fun j hj => .inr (.inl hj)).into (G := fun b => b = t ∨ b = g ∨ own (.slice (some ⟨ga, off, none⟩) l.length cp) b) fun j hj => .inr (.inl hj)).trans (hm5.wide fun j hj => .inr (.inr ((hga j).2 hj)))).into fun j hj => .inr (.inl hj))
      have z1 := B5.out.frozen 1
      have d5 : w5.cell? ⟨t, 1, none⟩ = some (.slice (some ⟨ga, off, none⟩) l.length cp) := B5.out.cell 1
      clear hw5 hm5 CI CD
      go_wp2
      go_ret2
      have hB6 := B5.out.set_ 1 (.slice (some ⟨ga, off, none⟩) (l.length - 1) cp)
      refine ⟨rfl, hB6, ?_, ?_, F5.out.set (p := ⟨t, 1, none⟩) (.inl (.inl rfl)) _⟩
      · rw [hfs.out]
        obtain ⟨cs, hb, hc⟩ := S5.out
        exact ⟨cs, hb.far (p := ⟨t, 1, none⟩) hgt.symm _, hc⟩
      · rw [← hef.out]
        exact V5.out.set (p := ⟨t, 1, none⟩) hvt _
end Go.Proofs.YtkjeobcfaolcaaaDoor
