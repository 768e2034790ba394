/- Plain law of chapter 16: what see gathers event by event is the document's: commits, cells. -/
import Derived.Test.YtloiadhdkgkjkaaPMn1
import Derived.Test.YtloiadhdkgkjkaaPMn4
import Derived.Test.YtloiadhdkgkjkaaPMn5
import Derived.Test.YtloiadhdkgkjkaaPMn7
namespace Go.Proofs.Ytloiadhdkgkjkaa
set_option maxHeartbeats 4000000
set_option linter.unusedVariables false
set_option linter.unusedSimpArgs false
theorem atW_top {l : List (Nat × Int)} (hl : l ≠ []) {n m : Nat} (h : ∀ p ∈ l, p.1 ≤ n) (hnm : n ≤ m) : atW l m = atW l n := by
  have e := List.dropLast_concat_getLast hl
  have hp := h _ (List.getLast_mem hl)
  generalize l.getLast hl = p at *
  generalize l.dropLast = d at *
  subst e
  cases d with
  | nil => rfl
  | cons x d => rw [atW_snoc (by simp), atW_snoc (by simp), if_pos (by omega), if_pos hp]
theorem vTl_same (v : Vw) (i : Nat) (e : Ev) : (vTl v i e).now = v.now ∧ (vTl v i e).cells = v.cells ∧ (vTl v i e).commits = v.commits ∧ (vTl v i e).next = v.next := by
  unfold vTl
  dsimp only
  split <;> exact ⟨rfl, rfl, rfl, rfl⟩
structure VR (first : List Int) (T : List Tr) (l : List Ev) (k : Nat) : Prop where
  cm : (vn first T l k).commits = (wrS l k).2.length
  lkB : ∀ t, t < 8 → ((wrS l k).1 t = true ↔ ((rn l k).th t).how = 2)
  lkA : ∀ t, t < 8 → liveT ((rn l k).th t) → (((vn first T l k).now t).lk = true ↔ ((rn l k).th t).how = 2)
  ws : ∀ t, t < 8 → liveT ((rn l k).th t) → ((vn first T l k).now t).ws = ((rn l k).th t).ws
  bg : ∀ t : Nat, t < 8 → liveT ((rn l k).th t) → begF l t k < k ∧ ((rn l k).th t).ws = wsF l t (begF l t k) (k - begF l t k)
  ce : ∀ n, n ≤ (vn first T l k).commits → ∀ a, a < first.length → atW ((vn first T l k).cells a) n = (stS first l (wrS l k).2 n).1.getD a 0
theorem VR.start (first : List Int) (T : List Tr) (l : List Ev) : VR first T l 0 where
  cm := rfl
  lkB := fun t _ => by simp [wrS, rn, St.zero]
  lkA := fun t _ h => by simp [rn, St.zero, liveT] at h
  ws := fun t _ h => by simp [rn, St.zero, liveT] at h
  bg := fun t _ h => by simp [rn, St.zero, liveT] at h
  ce := fun n hn a ha => by
    have hn0 : n = 0 := by simpa [vn, vw0] using hn
    subst hn0
    show atW (vw0 first |>.cells a) 0 = first.getD a 0
    simp [vw0, atW, dn]
theorem begF_succ (l : List Ev) (t : Int) (k : Nat) : begF l t (k + 1) = if (evAt l k).th = t ∧ (evAt l k).kd = 1 then k else begF l t k := rfl
theorem wsF_succ (l : List Ev) (t : Int) (b n : Nat) : wsF l t b (n + 1) = if (evAt l (b + n)).th = t ∧ (evAt l (b + n)).kd = 3 then wsF l t b n ++ [((evAt l (b + n)).ad, (evAt l (b + n)).wd)] else wsF l t b n := rfl
theorem wrS_succ (l : List Ev) (n : Nat) : wrS l (n + 1) = if (evAt l n).kd = 5 then (upd (wrS l n).1 (evAt l n).th.toNat true, (wrS l n).2) else if (evAt l n).kd = 6 ∧ (wrS l n).1 (evAt l n).th.toNat = true then (upd (wrS l n).1 (evAt l n).th.toNat false, (wrS l n).2 ++ [n]) else wrS l n := rfl
theorem stS_succ (first : List Int) (l : List Ev) (W : List Nat) (j : Nat) : (stS first l W (j + 1)).1 = apF l (evAt l (W.getD j 0)).th (begF l (evAt l (W.getD j 0)).th (W.getD j 0 + 1)) (stS first l W j).1 (W.getD j 0 - begF l (evAt l (W.getD j 0)).th (W.getD j 0 + 1)) := rfl
theorem vEv_com (T : List Tr) (v : Vw) (e : Ev) : (vEv T v e).commits = if e.kd = 6 ∧ (v.now e.th.toNat).lk = true then v.commits + 1 else v.commits := by
  unfold vEv
  dsimp only
  by_cases h1 : e.kd = 1
  · rw [if_pos h1, if_neg (by omega)]
  by_cases h2 : e.kd = 2
  · rw [if_neg h1, if_pos h2, if_neg (show ¬ (e.kd = 6 ∧ (v.now e.th.toNat).lk = true) from fun h => by have := h.1; omega)]; split <;> rfl
  by_cases h3 : e.kd = 3
  · rw [if_neg h1, if_neg h2, if_pos h3, if_neg (by omega)]
  by_cases h5 : e.kd = 5
  · rw [if_neg h1, if_neg h2, if_neg h3, if_pos h5, if_neg (by omega)]
  rw [if_neg h1, if_neg h2, if_neg h3, if_neg h5]
  split <;> rfl
theorem vEv_cells (T : List Tr) (v : Vw) (e : Ev) : (vEv T v e).cells = if e.kd = 6 ∧ (v.now e.th.toNat).lk = true then putAll v.cells (v.commits + 1) (v.now e.th.toNat).ws else v.cells := by
  unfold vEv
  dsimp only
  by_cases h1 : e.kd = 1
  · rw [if_pos h1, if_neg (by omega)]
  by_cases h2 : e.kd = 2
  · rw [if_neg h1, if_pos h2, if_neg (show ¬ (e.kd = 6 ∧ (v.now e.th.toNat).lk = true) from fun h => by have := h.1; omega)]; split <;> rfl
  by_cases h3 : e.kd = 3
  · rw [if_neg h1, if_neg h2, if_pos h3, if_neg (by omega)]
  by_cases h5 : e.kd = 5
  · rw [if_neg h1, if_neg h2, if_neg h3, if_pos h5, if_neg (by omega)]
  rw [if_neg h1, if_neg h2, if_neg h3, if_neg h5]
  split <;> rfl
theorem vEv_now (T : List Tr) (v : Vw) (e : Ev) : (vEv T v e).now e.th.toNat = if e.kd = 1 then ⟨v.next, false, []⟩ else if e.kd = 3 then ⟨(v.now e.th.toNat).tri, (v.now e.th.toNat).lk, (v.now e.th.toNat).ws ++ [(e.ad, e.wd)]⟩ else if e.kd = 5 then ⟨(v.now e.th.toNat).tri, true, (v.now e.th.toNat).ws⟩ else v.now e.th.toNat := by
  unfold vEv
  dsimp only
  by_cases h1 : e.kd = 1
  · rw [if_pos h1, if_pos h1]; exact upd_at _ _ _
  by_cases h2 : e.kd = 2
  · rw [if_neg h1, if_pos h2, if_neg h1]
    rw [if_neg (show ¬ e.kd = 3 by omega), if_neg (show ¬ e.kd = 5 by omega)]
    split <;> rfl
  by_cases h3 : e.kd = 3
  · rw [if_neg h1, if_neg h2, if_pos h3, if_neg h1, if_pos h3]; exact upd_at _ _ _
  by_cases h5 : e.kd = 5
  · rw [if_neg h1, if_neg h2, if_neg h3, if_pos h5, if_neg h1, if_neg h3, if_pos h5]; exact upd_at _ _ _
  rw [if_neg h1, if_neg h2, if_neg h3, if_neg h5, if_neg h1, if_neg h3, if_neg h5]
  split <;> rfl
theorem VR.step {first : List Int} {T : List Tr} {l : List Ev} (hwf : ∀ e ∈ l, EvWf e) (hok : okTo l l.length) (hp : idxE plainE l < 0) (hf : idxE (farE first.length) l < 0) {k : Nat} (hk : k < l.length) (h : VR first T l k) : VR first T l (k + 1) := by
  have hVI := VI.vn (T := T) hwf hok hp hf (show k ≤ l.length by omega)
  have hVJ := VJ.vn (T := T) (first := first) hwf hf (show k ≤ l.length by omega)
  have hI := inv_rn hwf (show k ≤ l.length by omega) (fun j hj => hok j (by omega))
  have hw := hok k hk
  obtain ⟨hfm, htb, h9, -, -, -⟩ := wrong_zero hw
  obtain ⟨⟨h0, h8⟩, k1, k12⟩ := fmd_bd hfm
  obtain ⟨cm, lkB, lkA, ws, bg, ce⟩ := h
  have hv : vn first T l (k + 1) = vTl (vEv T (vn first T l k) (evAt l k)) k (evAt l k) := rfl
  have hs : rn l (k + 1) = take (rn l k) k (evAt l k) := rfl
  have hW := wrS_succ l k
  have hst := stS_succ first l ((wrS l k).2 ++ [k]) (wrS l k).2.length
  have hpre := fun j hj => stS_pre first l (wrS l k).2 k j hj
  have hgk : ((wrS l k).2 ++ [k]).getD (wrS l k).2.length 0 = k := by rw [List.getD_eq_getElem?_getD, List.getElem?_append_right (Nat.le_refl _)]; simp
  rw [hgk] at hst
  have hbs := fun t : Int => begF_succ l t k
  have hws := fun (t : Int) (b : Nat) (hb : b ≤ k) => (show wsF l t b (k + 1 - b) = if (evAt l k).th = t ∧ (evAt l k).kd = 3 then wsF l t b (k - b) ++ [((evAt l k).ad, (evAt l k).wd)] else wsF l t b (k - b) from by
    have := wsF_succ l t b (k - b)
    rw [show b + (k - b) = k by omega] at this
    rw [show k + 1 - b = k - b + 1 by omega]
    exact this)
  generalize evAt l k = e at *
  obtain ⟨th, kd, ad, wd, ow, er⟩ := e
  dsimp only at *
  obtain ⟨t, rfl⟩ := Int.eq_ofNat_of_zero_le h0
  obtain ⟨c, rfl⟩ := Int.eq_ofNat_of_zero_le (show 0 ≤ kd by omega)
  have ht : t < 8 := by omega
  have hc : c < 13 := by omega
  rw [Int.toNat_natCast] at htb hW
  obtain ⟨tn, tcl, tcm, -⟩ := vTl_same (vEv T (vn first T l k) ⟨t, c, ad, wd, ow, er⟩) k ⟨t, c, ad, wd, ow, er⟩
  rw [← hv] at tn tcl tcm
  have hth := fun j => take_th (rn l k) k ⟨t, c, ad, wd, ow, er⟩ j
  simp only [Int.toNat_natCast] at hth
  rw [← hs] at hth
  have e1 : ((c : Int) = 1) = (c = 1) := by simp; omega
  have e2 : ((c : Int) = 2) = (c = 2) := by simp; omega
  have e3 : ((c : Int) = 3) = (c = 3) := by simp; omega
  have e5 : ((c : Int) = 5) = (c = 5) := by simp; omega
  have e6 : ((c : Int) = 6) = (c = 6) := by simp; omega
  simp only [e1] at hbs
  simp only [e3] at hws
  simp only [e5, e6] at hW
  have hev : vEv T (vn first T l k) ⟨t, c, ad, wd, ow, er⟩ = vEv T (vn first T l k) ⟨t, c, ad, wd, ow, er⟩ := rfl
  have hnj : ∀ j, j ≠ t → (vEv T (vn first T l k) ⟨t, c, ad, wd, ow, er⟩).now j = (vn first T l k).now j := fun j hj => by
    unfold vEv
    dsimp only
    rw [Int.toNat_natCast]
    repeat' split
    all_goals first | rfl | exact upd_ne _ _ hj
  have hcs := tb_ok (hI.bd.how t) hc htb
  have vc := vEv_com T (vn first T l k) ⟨t, c, ad, wd, ow, er⟩
  have vce := vEv_cells T (vn first T l k) ⟨t, c, ad, wd, ow, er⟩
  have vno := vEv_now T (vn first T l k) ⟨t, c, ad, wd, ow, er⟩
  dsimp only at vc vce vno
  rw [Int.toNat_natCast] at vc vce vno
  simp only [e1, e3, e5, e6] at vc vce vno
  -- a writing commit
  have q1 : (c = 6 ∧ ((vn first T l k).now t).lk = true) = (c = 6 ∧ ((rn l k).th t).how = 2) := propext (by
    constructor
    · rintro ⟨h6, h⟩
      refine ⟨h6, (lkA t ht ?_).1 h⟩
      rcases hcs with ⟨h1, h2⟩ | ⟨h1, _⟩ | ⟨h1, _⟩
      · omega
      · exact .inl h1
      · exact .inr h1
    · rintro ⟨h6, h⟩
      exact ⟨h6, (lkA t ht (.inr h)).2 h⟩)
  have q2 : (c = 6 ∧ (wrS l k).1 t = true) = (c = 6 ∧ ((rn l k).th t).how = 2) := propext (and_congr Iff.rfl (lkB t ht))
  simp only [q1] at vc vce
  simp only [q2] at hW
  have hown := hth t
  rw [if_pos rfl] at hown
  have hoth : ∀ j, j ≠ t → (rn l (k + 1)).th j = (rn l k).th j := fun j hj => by rw [hth j, if_neg hj]
  have hhow : ((rn l (k + 1)).th t).how = tb ((rn l k).th t).how (c : Int) - 1 := by rw [hown]; rfl
  have hwst : ((rn l (k + 1)).th t).ws = if c = 1 then [] else if c = 3 then ((rn l k).th t).ws ++ [(ad, wd)] else ((rn l k).th t).ws := by rw [hown]; simp only [tkT, e1, e3]
  have hlv1 : c ≠ 1 → liveT ((rn l (k + 1)).th t) → liveT ((rn l k).th t) := fun hc1 hl => by
    unfold liveT at hl ⊢
    rw [hhow] at hl
    rcases hcs with ⟨h1, h2⟩ | ⟨h1, _⟩ | ⟨h1, _⟩
    · rw [h1] at hl
      rcases h2 with rfl | rfl | rfl | rfl | rfl <;> simp [tb] at hl hc1
    · exact .inl h1
    · exact .inr h1
  constructor
  · rw [tcm, vc, hW]
    by_cases h5 : c = 5
    · rw [if_pos h5, if_neg (by omega)]; exact cm
    · rw [if_neg h5]
      split
      · rw [List.length_append, cm]; rfl
      · exact cm
  · intro j hj
    by_cases hjt : j = t
    · subst hjt
      rw [hW, hhow]
      have hb := lkB j ht
      rcases hcs with ⟨h1, h2⟩ | ⟨h1, h2⟩ | ⟨h1, h2⟩
      · rw [h1] at hb ⊢
        rcases h2 with rfl | rfl | rfl | rfl | rfl <;> simp [tb] at hb ⊢ <;> exact hb
      · rw [h1] at hb ⊢
        rcases h2 with rfl | rfl | rfl | rfl | rfl | rfl | rfl | rfl <;> simp [tb, upd_at] at hb ⊢ <;> exact hb
      · subst h2
        rw [h1] at hb ⊢
        simp [tb, upd_at]
    · rw [hoth j hjt, hW, ← lkB j hj]
      repeat' split
      all_goals first | rfl | (dsimp only; rw [upd_ne _ _ hjt])
  · intro j hj hl
    by_cases hjt : j = t
    · subst hjt
      rw [tn, vno, hhow]
      by_cases c1 : c = 1
      · subst c1
        rw [if_pos rfl]
        rcases hcs with ⟨h1, h2⟩ | ⟨h1, h2⟩ | ⟨h1, h2⟩
        · rw [h1]; simp [tb]
        · omega
        · omega
      · have hla := lkA j ht (hlv1 c1 hl)
        rw [if_neg c1]
        unfold liveT at hl
        rw [hhow] at hl
        rcases hcs with ⟨h1, h2⟩ | ⟨h1, h2⟩ | ⟨h1, h2⟩
        · rw [h1] at hl
          rcases h2 with rfl | rfl | rfl | rfl | rfl <;> simp [tb] at hl c1
        · rw [h1] at hla ⊢
          rcases h2 with rfl | rfl | rfl | rfl | rfl | rfl | rfl | rfl <;> simp [tb] at hla ⊢ <;> exact hla
        · subst h2
          simp [h1, tb] at hl
    · rw [hoth j hjt] at hl ⊢
      rw [tn, hnj j hjt]
      exact lkA j hj hl
  · intro j hj hl
    by_cases hjt : j = t
    · subst hjt
      rw [tn, vno, hwst]
      by_cases c1 : c = 1
      · rw [if_pos c1, if_pos c1]
      · rw [if_neg c1, if_neg c1]
        have hw1 := ws j ht (hlv1 c1 hl)
        by_cases c3 : c = 3
        · rw [if_pos c3, if_pos c3, ← hw1]
        · rw [if_neg c3, if_neg c3, ← hw1]
          split <;> rfl
    · rw [hoth j hjt] at hl ⊢
      rw [tn, hnj j hjt]
      exact ws j hj hl
  · intro j hj hl
    by_cases hjt : j = t
    · subst hjt
      rw [hbs, hwst]
      by_cases c1 : c = 1
      · subst c1
        rw [if_pos ⟨rfl, rfl⟩, if_pos rfl]
        refine ⟨Nat.lt_succ_self _, ?_⟩
        have := hws j k (Nat.le_refl _)
        rw [this, if_neg (by omega), Nat.sub_self]
        rfl
      · rw [if_neg (fun h => c1 h.2), if_neg c1]
        obtain ⟨b1, b2⟩ := bg j ht (hlv1 c1 hl)
        refine ⟨by omega, ?_⟩
        rw [hws _ _ (by omega), ← b2]
        by_cases c3 : c = 3
        · rw [if_pos c3, if_pos ⟨rfl, c3⟩]
        · rw [if_neg c3, if_neg (fun h => c3 h.2)]
    · have hjt' : ¬ (t : Int) = (j : Int) := fun h => hjt (by omega)
      rw [hoth j hjt] at hl ⊢
      rw [hbs, if_neg (fun h => hjt' h.1)]
      obtain ⟨b1, b2⟩ := bg j hj hl
      refine ⟨by omega, ?_⟩
      rw [hws _ _ (by omega), if_neg (fun h => hjt' h.1)]
      exact b2
  · intro n hn a ha
    rw [tcm, vc] at hn
    rw [tcl, vce, hW]
    by_cases h5 : c = 5
    · rw [if_pos h5, if_neg (by omega)]
      rw [if_neg (by omega)] at hn
      exact ce n hn a ha
    · rw [if_neg h5]
      by_cases hcm : c = 6 ∧ ((rn l k).th t).how = 2
      · rw [if_pos hcm] at hn
        rw [if_pos hcm, if_pos hcm]
        dsimp only
        have hLv : liveT ((rn l k).th t) := .inr hcm.2
        have hLm : ∀ a, a < first.length → Lm ((vn first T l k).cells a) ((vn first T l k).commits + 1) := fun a ha => ⟨(hVI.inc a ha).ne, (hVJ.z a ha).2, fun p hp => Nat.le_succ_of_le ((hVI.inc a ha).le p hp)⟩
        have hnow := (stS_len first l (wrS l k).2 (wrS l k).2.length).1
        have P := putAll_at (m := (vn first T l k).commits + 1) (Nat.succ_pos _) (ws := ((vn first T l k).now t).ws) (c := (vn first T l k).cells) hnow (hVI.ws t ht).1 hLm (fun a ha => by
          rw [atW_top (hVI.inc a ha).ne (hVI.inc a ha).le (Nat.le_succ _), ce _ (Nat.le_refl _) a ha, cm])
        by_cases hnm : n ≤ (vn first T l k).commits
        · rw [P.2.2 a ha n (by omega), hpre n (by rw [← cm]; exact hnm)]
          exact ce n hnm a ha
        · obtain rfl : n = (vn first T l k).commits + 1 := by omega
          rw [P.2.1 a ha]
          have hcm' := cm
          rw [hcm', hst, hpre _ (Nat.le_refl _), apF_apW, ws t ht hLv, (bg t ht hLv).2, hbs, if_neg (by omega)]
      · rw [if_neg hcm] at hn
        rw [if_neg hcm, if_neg hcm]
        exact ce n hn a ha
theorem VR.all {first : List Int} {T : List Tr} {l : List Ev} (hwf : ∀ e ∈ l, EvWf e) (hok : okTo l l.length) (hp : idxE plainE l < 0) (hf : idxE (farE first.length) l < 0) : ∀ k, k ≤ l.length → VR first T l k
  | 0, _ => VR.start first T l
  | k + 1, hk => (VR.all hwf hok hp hf k (by omega)).step hwf hok hp hf (by omega)
end Go.Proofs.Ytloiadhdkgkjkaa
/- Plain law of chapter 16: what see gathers of each attempt is the document's. -/
namespace Go.Proofs.Ytloiadhdkgkjkaa
set_option maxHeartbeats 4000000
set_option linter.unusedVariables false
set_option linter.unusedSimpArgs false
theorem vEv_sights (T : List Tr) (v : Vw) (e : Ev) : (vEv T v e).sights = if e.kd = 1 then v.sights ++ [⟨T.getD v.next Tr.zero, [], v.commits, 0⟩] else if e.kd = 2 ∧ e.ow = false then v.sights.set (v.now e.th.toNat).tri ⟨(v.sights.getD (v.now e.th.toNat).tri Sg.zero).tr, (v.sights.getD (v.now e.th.toNat).tri Sg.zero).reads ++ [(e.ad, e.wd)], (v.sights.getD (v.now e.th.toNat).tri Sg.zero).fr, (v.sights.getD (v.now e.th.toNat).tri Sg.zero).upto⟩ else v.sights := by
  unfold vEv
  dsimp only
  by_cases h1 : e.kd = 1
  · rw [if_pos h1, if_pos h1]
  by_cases h2 : e.kd = 2
  · rw [if_neg h1, if_pos h2, if_neg h1]
    cases e.ow
    · rw [if_neg (by decide), if_pos ⟨h2, rfl⟩]
    · rw [if_pos rfl, if_neg (fun h => by cases h.2)]
  rw [if_neg h1, if_neg h2, if_neg h1, if_neg (show ¬ (e.kd = 2 ∧ e.ow = false) from fun h => h2 h.1)]
  repeat' split
  all_goals rfl
theorem vEv_next (T : List Tr) (v : Vw) (e : Ev) : (vEv T v e).next = if e.kd = 1 then v.next + 1 else v.next := by
  unfold vEv
  dsimp only
  by_cases h1 : e.kd = 1
  · rw [if_pos h1, if_pos h1]
  rw [if_neg h1, if_neg h1]
  repeat' split
  all_goals rfl
theorem tailB_of {v : Vw} {i : Nat} {e : Ev} {q : Nat} {x : Sg} (hn : 0 < v.next) (hq : (v.now e.th.toNat).tri = q) (hx : v.sights[q]? = some x) (h1 : x.tr.th = e.th) (h2 : x.tr.last = i) : tailB v i e = true := by
  unfold tailB
  have hlt : q < v.sights.length := (List.getElem?_eq_some_iff.1 hx).1
  rw [hq, List.getD_eq_getElem?_getD, hx]
  simp [hn, hlt, h1, h2]
theorem tailB_last {v : Vw} {i : Nat} {e : Ev} {q : Nat} {x : Sg} (h : tailB v i e = true) (hq : (v.now e.th.toNat).tri = q) (hx : v.sights[q]? = some x) : x.tr.last = i := by
  unfold tailB at h
  rw [hq, List.getD_eq_getElem?_getD, hx] at h
  simp at h
  exact h.2.2.2
theorem vTl_get (v : Vw) (i : Nat) (e : Ev) (q : Nat) (x : Sg) (hx : v.sights[q]? = some x) : (vTl v i e).sights[q]? = some (if tailB v i e = true ∧ (v.now e.th.toNat).tri = q then ⟨x.tr, x.reads, x.fr, v.commits⟩ else x) := by
  unfold vTl
  dsimp only
  have hlt : q < v.sights.length := (List.getElem?_eq_some_iff.1 hx).1
  by_cases h : tailB v i e = true
  · rw [if_pos h]
    dsimp only
    rw [List.getElem?_set]
    by_cases hq : (v.now e.th.toNat).tri = q
    · rw [if_pos hq, if_pos (show (v.now e.th.toNat).tri < v.sights.length by rw [hq]; exact hlt), if_pos (show tailB v i e = true ∧ (v.now e.th.toNat).tri = q from ⟨h, hq⟩), hq, List.getD_eq_getElem?_getD, hx]; rfl
    · rw [if_neg hq, if_neg (show ¬ (tailB v i e = true ∧ (v.now e.th.toNat).tri = q) from fun hh => hq hh.2), hx]
  · rw [if_neg h, if_neg (show ¬ (tailB v i e = true ∧ (v.now e.th.toNat).tri = q) from fun hh => h hh.1), hx]
theorem tryK_last_lt {l : List Ev} : ∀ {k a : Nat}, a < k → (tryK l k a).last < k
  | k + 1, a, h => by
    by_cases hk : a = k
    · subst hk; rw [tryK_new]; exact Nat.lt_succ_self _
    · have ih := tryK_last_lt (l := l) (show a < k by omega)
      rw [tryK_succ (by omega)]
      split
      · omega
      · exact Nat.lt_succ_self _
theorem tryK_later {l : List Ev} {a k : Nat} (h : a < k) : ∀ m, k ≤ m → (tryK l m a).last = (tryK l k a).last ∨ k ≤ (tryK l m a).last
  | m, hm => by
    induction m with
    | zero => omega
    | succ m ih =>
      by_cases e : k = m + 1
      · subst e; exact .inl rfl
      · have ih := ih (by omega)
        rw [tryK_succ (l := l) (k := m) (by omega)]
        split
        · exact ih
        · exact .inr (show k ≤ m by omega)
theorem tryK_full (l : List Ev) (a : Nat) : tryK l l.length a = tryF l a := rfl
theorem tryK_fix (l : List Ev) (k a : Nat) : (tryK l k a).th = (evAt l a).th ∧ (tryK l k a).first = a := tryS_fix l a _
/-- Behind its last event an attempt that is open has none. -/
theorem tryK_quiet {l : List Ev} : ∀ {k a : Nat}, a < k → (tryK l k a).how = 0 → ∀ j, (tryK l k a).last < j → j < k → (evAt l j).th ≠ (evAt l a).th
  | k + 1, a, h, h0, j, hj, hjk => by
    by_cases hk : a = k
    · subst hk
      rw [tryK_new] at hj
      dsimp only at hj
      omega
    · have hak : a < k := by omega
      rw [tryK_succ hak] at h0 hj
      by_cases hc : (tryK l k a).how ≠ 0 ∨ (evAt l k).th ≠ (tryK l k a).th
      · rw [if_pos hc] at h0 hj
        by_cases hjk2 : j = k
        · subst hjk2
          rcases hc with hc | hc
          · exact absurd h0 hc
          · rw [(tryK_fix l j a).1] at hc; exact hc
        · exact tryK_quiet hak h0 j hj (by omega)
      · rw [if_neg hc] at hj
        have : k < j := hj
        omega
theorem rdF_quiet {l : List Ev} {th : Int} {a n : Nat} : ∀ {m : Nat}, n ≤ m → (∀ j, n ≤ j → j < m → (evAt l (a + j)).th ≠ th) → rdF l th a m = rdF l th a n
  | 0, h, _ => by rw [show n = 0 by omega]
  | m + 1, h, hq => by
    by_cases e : n = m + 1
    · rw [e]
    · rw [← rdF_quiet (n := n) (m := m) (by omega) (fun j h1 h2 => hq j h1 (by omega))]
      show (if rdK (evAt l (a + m)) th = true then _ else _) = _
      rw [if_neg]
      have := hq m (by omega) (by omega)
      unfold rdK
      simp [this]
theorem rdF_succ (l : List Ev) (th : Int) (a n : Nat) : rdF l th a (n + 1) = if rdK (evAt l (a + n)) th = true then rdF l th a n ++ [((evAt l (a + n)).ad, (evAt l (a + n)).wd)] else rdF l th a n := rfl
theorem begs_pre (l : List Ev) (k : Nat) : ∀ m, k ≤ m → ∀ (q a : Nat), (begs l k)[q]? = some a → (begs l m)[q]? = some a
  | m, hm, q, a, hq => by
    induction m with
    | zero =>
      have hk0 : k = 0 := by omega
      rw [hk0] at hq
      exact hq
    | succ m ih =>
      by_cases e : k = m + 1
      · subst e; exact hq
      · have ih := ih (by omega)
        show (if (evAt l m).kd = 1 then begs l m ++ [m] else begs l m)[q]? = some a
        split
        · rw [List.getElem?_append_left ((List.getElem?_eq_some_iff.1 ih).1)]; exact ih
        · exact ih
/-- What an attempt has read ahead of event k. -/
def rdsK (l : List Ev) (k a : Nat) : List (Int × Int) := if (tryK l k a).how = 0 then rdF l (evAt l a).th a (k - a) else rdF l (evAt l a).th a ((tryK l k a).last + 1 - a)
def SR (first : List Int) (T : List Tr) (l : List Ev) (k : Nat) : Prop :=
  ∀ (q a : Nat), (begs l k)[q]? = some a → ∃ x : Sg, (vn first T l k).sights[q]? = some x ∧ x.tr = tryF l a ∧ x.fr = (wrS l k).2.countP (fun c => decide (c < a)) ∧ x.reads = rdsK l k a ∧ ((tryF l a).last < k → x.upto = (wrS l k).2.countP (fun c => decide (c ≤ (tryF l a).last)))
theorem wrS_cnt_lt (l : List Ev) {k a : Nat} (h : a ≤ k) : (wrS l (k + 1)).2.countP (fun c => decide (c < a)) = (wrS l k).2.countP (fun c => decide (c < a)) := by
  rw [wrS_succ]
  repeat' split
  · rfl
  · dsimp only; rw [List.countP_append]; simp; omega
  · rfl
theorem wrS_cnt_le (l : List Ev) {k a : Nat} (h : a < k) : (wrS l (k + 1)).2.countP (fun c => decide (c ≤ a)) = (wrS l k).2.countP (fun c => decide (c ≤ a)) := by
  rw [wrS_succ]
  repeat' split
  · rfl
  · dsimp only; rw [List.countP_append]; simp; omega
  · rfl
theorem wrS_cnt_all (l : List Ev) {k a : Nat} (h : k ≤ a + 1) : (wrS l k).2.countP (fun c => decide (c ≤ a)) = (wrS l k).2.length := by
  rw [List.countP_eq_length]
  intro c hc
  have := wrS_lt l k c hc
  simp; omega
theorem wrS_cnt_all' (l : List Ev) (k : Nat) : (wrS l k).2.countP (fun c => decide (c < k)) = (wrS l k).2.length := by
  rw [List.countP_eq_length]
  intro c hc
  have := wrS_lt l k c hc
  simp; omega
theorem SR.step {first : List Int} {l : List Ev} (hwf : ∀ e ∈ l, EvWf e) (hok : okTo l l.length) (hp : idxE plainE l < 0) (hf : idxE (farE first.length) l < 0) {k : Nat} (hk : k < l.length) (h : SR first (trsF l l.length) l k) : SR first (trsF l l.length) l (k + 1) := by
  have hVI := VI.vn (T := trsF l l.length) hwf hok hp hf (show k ≤ l.length by omega)
  have hVR := VR.all (T := trsF l l.length) hwf hok hp hf k (by omega)
  have hVR' := VR.all (T := trsF l l.length) hwf hok hp hf (k + 1) hk
  have hI := inv_rn hwf (show k ≤ l.length by omega) (fun j hj => hok j (by omega))
  have hT := rn_tries hwf hok k (by omega)
  have hw := hok k hk
  obtain ⟨hfm, htb, h9, -, -, -⟩ := wrong_zero hw
  obtain ⟨⟨h0, h8⟩, k1, k12⟩ := fmd_bd hfm
  have hv : vn first (trsF l l.length) l (k + 1) = vTl (vEv (trsF l l.length) (vn first (trsF l l.length) l k) (evAt l k)) k (evAt l k) := rfl
  have hcm' := hVR'.cm
  have hlen : (begs l k).length = (vn first (trsF l l.length) l k).next := by rw [hVI.nx, hT, List.length_map]
  have hcl : ∀ (q a : Nat), (begs l k)[q]? = some a → (tryK l k a).how = 0 → ∃ t' : Nat, t' < 8 ∧ (tryK l k a).th = (t' : Int) ∧ liveT ((rn l k).th t') ∧ ((vn first (trsF l l.length) l k).now t').tri = q := fun q a hq h => by
    have hx : (rn l k).tries[q]? = some (tryK l k a) := by rw [hT, List.getElem?_map, hq]; rfl
    obtain ⟨t', h1, h2, h3⟩ := hI.cl q _ hx
    exact ⟨t', h1, h2, (h3 h).1, (hVI.live t' h1 (h3 h).1).trans (h3 h).2⟩
  have hop : ∀ t', t' < 8 → liveT ((rn l k).th t') → ∃ a, (begs l k)[((vn first (trsF l l.length) l k).now t').tri]? = some a ∧ (tryK l k a).how = 0 ∧ (tryK l k a).th = (t' : Int) := fun t' ht' hl => by
    obtain ⟨x, h1, h2, h3⟩ := hI.op t' ht' hl
    rw [hT, List.getElem?_map] at h1
    rw [hVI.live t' ht' hl]
    cases hq : (begs l k)[((rn l k).th t').tr]? with
    | none => rw [hq] at h1; cases h1
    | some a =>
      rw [hq] at h1
      obtain rfl : tryK l k a = x := by simpa using h1
      exact ⟨a, rfl, h2, h3⟩
  have hve := vEv_sights (trsF l l.length) (vn first (trsF l l.length) l k) (evAt l k)
  have hvn := vEv_next (trsF l l.length) (vn first (trsF l l.length) l k) (evAt l k)
  have hvo := vEv_now (trsF l l.length) (vn first (trsF l l.length) l k) (evAt l k)
  obtain ⟨-, -, htc, -⟩ := vTl_same (vEv (trsF l l.length) (vn first (trsF l l.length) l k) (evAt l k)) k (evAt l k)
  rw [← hv] at htc
  obtain ⟨t, ht⟩ := Int.eq_ofNat_of_zero_le h0
  have ht8 : t < 8 := by omega
  have htn : (evAt l k).th.toNat = t := by rw [ht, Int.toNat_natCast]
  rw [htn] at hve hvo htb
  have hkd1 : (evAt l k).kd = 1 → ¬ liveT ((rn l k).th t) := fun h1 hl => by
    rw [h1] at htb
    rcases hl with hl | hl <;> rw [hl] at htb <;> simp [tb] at htb
  have hkd2 : (evAt l k).kd = 2 → liveT ((rn l k).th t) := fun h2 => by
    rw [h2] at htb
    have := hI.bd.how t
    unfold tb at htb
    by_cases e0 : ((rn l k).th t).how = 0
    · simp [e0] at htb
    · by_cases e1 : ((rn l k).th t).how = 1
      · exact .inl e1
      · by_cases e2 : ((rn l k).th t).how = 2
        · exact .inr e2
        · simp [e0, e1, e2] at htb
  -- the tail
  have tail : ∀ (q a : Nat) (x : Sg), a ≤ k → (vEv (trsF l l.length) (vn first (trsF l l.length) l k) (evAt l k)).sights[q]? = some x → x.tr = tryF l a → x.fr = (wrS l (k + 1)).2.countP (fun c => decide (c < a)) → x.reads = rdsK l (k + 1) a →
      ((tryF l a).last < k → x.upto = (wrS l k).2.countP (fun c => decide (c ≤ (tryF l a).last))) → ((tryF l a).last = k → ((vEv (trsF l l.length) (vn first (trsF l l.length) l k) (evAt l k)).now t).tri = q ∧ (tryF l a).th = (evAt l k).th ∧ 0 < (vEv (trsF l l.length) (vn first (trsF l l.length) l k) (evAt l k)).next) →
      ∃ x : Sg, (vn first (trsF l l.length) l (k + 1)).sights[q]? = some x ∧ x.tr = tryF l a ∧ x.fr = (wrS l (k + 1)).2.countP (fun c => decide (c < a)) ∧ x.reads = rdsK l (k + 1) a ∧ ((tryF l a).last < k + 1 → x.upto = (wrS l (k + 1)).2.countP (fun c => decide (c ≤ (tryF l a).last))) := by
    intro q a x hak hx h1 h2 h3 h4 h5
    have hg := vTl_get _ k (evAt l k) q x hx
    rw [← hv] at hg
    refine ⟨_, hg, ?_, ?_, ?_, ?_⟩
    · split <;> exact h1
    · split <;> exact h2
    · split <;> exact h3
    · intro hlast
      by_cases hlk : (tryF l a).last = k
      · obtain ⟨g1, g2, g3⟩ := h5 hlk
        have hb := tailB_of (i := k) (e := evAt l k) g3 (by rw [htn]; exact g1) hx (by rw [h1]; exact g2) (by rw [h1]; exact hlk)
        rw [if_pos ⟨hb, by rw [htn]; exact g1⟩]
        dsimp only
        rw [← htc, hcm', hlk, wrS_cnt_all l (by omega)]
      · rw [if_neg]
        · rw [h4 (by omega), wrS_cnt_le l (by omega)]
        · rintro ⟨hb, hq⟩
          have := tailB_last hb hq hx
          rw [h1] at this
          exact hlk this
  intro q a hqa
  have hqa : (if (evAt l k).kd = 1 then begs l k ++ [k] else begs l k)[q]? = some a := hqa
  have hold : (begs l k)[q]? = some a → ∃ x : Sg, (vn first (trsF l l.length) l (k + 1)).sights[q]? = some x ∧ x.tr = tryF l a ∧ x.fr = (wrS l (k + 1)).2.countP (fun c => decide (c < a)) ∧ x.reads = rdsK l (k + 1) a ∧ ((tryF l a).last < k + 1 → x.upto = (wrS l (k + 1)).2.countP (fun c => decide (c ≤ (tryF l a).last))) := by
    intro hq
    have hak : a < k := begs_lt l k a (List.mem_of_getElem? hq)
    obtain ⟨x, hx, x1, x2, x3, x4⟩ := h q a hq
    have hqlt : q < (vn first (trsF l l.length) l k).sights.length := (List.getElem?_eq_some_iff.1 hx).1
    have hks := tryK_succ (l := l) hak
    have hfix := tryK_fix l k a
    -- which attempt the event is of
    have hmine : (¬ ((tryK l k a).how ≠ 0 ∨ (evAt l k).th ≠ (tryK l k a).th)) → liveT ((rn l k).th t) ∧ ((vn first (trsF l l.length) l k).now t).tri = q ∧ (evAt l k).kd ≠ 1 := fun hc => by
      have hc1 : (tryK l k a).how = 0 := Classical.byContradiction fun e => hc (.inl e)
      have hc2 : (evAt l k).th = (tryK l k a).th := Classical.byContradiction fun e => hc (.inr e)
      obtain ⟨t', g1, g2, g3, g4⟩ := hcl q a hq hc1
      have : t' = t := by omega
      subst this
      exact ⟨g3, g4, fun e => hkd1 e g3⟩
    have hnot : ((tryK l k a).how ≠ 0 ∨ (evAt l k).th ≠ (tryK l k a).th) → (evAt l k).kd = 2 → ((vn first (trsF l l.length) l k).now t).tri ≠ q := fun hc h2 e => by
      obtain ⟨a', g1, g2, g3⟩ := hop t ht8 (hkd2 h2)
      rw [e, hq] at g1
      obtain rfl : a = a' := by simpa using g1
      rcases hc with hc | hc
      · exact hc g2
      · rw [g3, ht] at hc; exact hc rfl
    have hlast5 : (tryF l a).last = k → ((vEv (trsF l l.length) (vn first (trsF l l.length) l k) (evAt l k)).now t).tri = q ∧ (tryF l a).th = (evAt l k).th ∧ 0 < (vEv (trsF l l.length) (vn first (trsF l l.length) l k) (evAt l k)).next := fun hl => by
      have hl2 : (tryK l (k + 1) a).last = k := by
        rcases tryK_later (l := l) (show a < k + 1 by omega) l.length hk with e | e
        · rw [← e]; exact hl
        · rw [tryK_full] at e; omega
      have hc : ¬ ((tryK l k a).how ≠ 0 ∨ (evAt l k).th ≠ (tryK l k a).th) := fun hc => by
        rw [hks, if_pos hc] at hl2
        have := tryK_last_lt (l := l) hak
        omega
      obtain ⟨g1, g2, g3⟩ := hmine hc
      refine ⟨?_, ?_, ?_⟩
      · rw [hvo, if_neg g3]
        repeat' split
        all_goals exact g2
      · have hc2 : (evAt l k).th = (tryK l k a).th := Classical.byContradiction fun e => hc (.inr e)
        rw [hc2, hfix.1, ← tryK_full, (tryK_fix l l.length a).1]
      · rw [hvn, if_neg g3, ← hlen]
        exact Nat.lt_of_le_of_lt (Nat.zero_le q) ((List.getElem?_eq_some_iff.1 hq).1)
    have hfr : (wrS l k).2.countP (fun c => decide (c < a)) = (wrS l (k + 1)).2.countP (fun c => decide (c < a)) := (wrS_cnt_lt l (by omega)).symm
    -- what has been read behind the event
    have hrd : rdsK l (k + 1) a = if ((evAt l k).kd = 2 ∧ (evAt l k).ow = false) ∧ ((vn first (trsF l l.length) l k).now t).tri = q then rdsK l k a ++ [((evAt l k).ad, (evAt l k).wd)] else rdsK l k a := by
      have hstep : rdF l (evAt l a).th a (k + 1 - a) = if rdK (evAt l k) (evAt l a).th = true then rdF l (evAt l a).th a (k - a) ++ [((evAt l k).ad, (evAt l k).wd)] else rdF l (evAt l a).th a (k - a) := by
        rw [show k + 1 - a = k - a + 1 by omega, rdF_succ, show a + (k - a) = k by omega]
      by_cases hc : (tryK l k a).how ≠ 0 ∨ (evAt l k).th ≠ (tryK l k a).th
      · rw [if_neg (fun hh => hnot hc hh.1.1 hh.2)]
        unfold rdsK
        rw [hks, if_pos hc]
        by_cases e0 : (tryK l k a).how = 0
        · rw [if_pos e0, if_pos e0, hstep, if_neg]
          have hth : (evAt l k).th ≠ (evAt l a).th := by
            rcases hc with hc | hc
            · exact absurd e0 hc
            · rw [hfix.1] at hc; exact hc
          unfold rdK
          simp [hth]
        · rw [if_neg e0, if_neg e0]
      · obtain ⟨g1, g2, g3⟩ := hmine hc
        have hc1 : (tryK l k a).how = 0 := Classical.byContradiction fun e => hc (.inl e)
        have hc2 : (evAt l k).th = (evAt l a).th := by
          have : (evAt l k).th = (tryK l k a).th := Classical.byContradiction fun e => hc (.inr e)
          rw [this, hfix.1]
        have hr : rdsK l (k + 1) a = rdF l (evAt l a).th a (k + 1 - a) := by
          unfold rdsK
          split
          · rfl
          · rw [hks, if_neg hc]; rfl
        have hr0 : rdsK l k a = rdF l (evAt l a).th a (k - a) := by unfold rdsK; rw [if_pos hc1]
        rw [hr, hr0, hstep]
        by_cases hk2 : (evAt l k).kd = 2 ∧ (evAt l k).ow = false
        · have hK : rdK (evAt l k) (evAt l a).th = true := by unfold rdK; simp [hc2, hk2.1, hk2.2]
          rw [if_pos hK, if_pos ⟨hk2, g2⟩]
        · have hK : ¬ rdK (evAt l k) (evAt l a).th = true := by
            unfold rdK
            intro hh
            simp at hh
            exact hk2 ⟨hh.1.2, hh.2⟩
          rw [if_neg hK, if_neg (fun hh => hk2 hh.1)]
    by_cases c1 : (evAt l k).kd = 1
    · refine tail q a x (by omega) ?_ x1 (x2.trans hfr) ?_ x4 hlast5
      · rw [hve, if_pos c1, List.getElem?_append_left hqlt]; exact hx
      · rw [x3, hrd, if_neg (fun hh => by have := hh.1.1; omega)]
    · by_cases hk2 : (evAt l k).kd = 2 ∧ (evAt l k).ow = false
      · by_cases hq2 : ((vn first (trsF l l.length) l k).now t).tri = q
        · refine tail q a ⟨x.tr, x.reads ++ [((evAt l k).ad, (evAt l k).wd)], x.fr, x.upto⟩ (by omega) ?_ x1 (x2.trans hfr) ?_ x4 hlast5
          · rw [hve, if_neg c1, if_pos hk2, hq2, List.getElem?_set, if_pos rfl, if_pos hqlt, List.getD_eq_getElem?_getD, hx]; rfl
          · rw [hrd, if_pos ⟨hk2, hq2⟩, ← x3]
        · refine tail q a x (by omega) ?_ x1 (x2.trans hfr) ?_ x4 hlast5
          · rw [hve, if_neg c1, if_pos hk2, List.getElem?_set, if_neg hq2]; exact hx
          · rw [x3, hrd, if_neg (fun hh => hq2 hh.2)]
      · refine tail q a x (by omega) ?_ x1 (x2.trans hfr) ?_ x4 hlast5
        · rw [hve, if_neg c1, if_neg hk2]; exact hx
        · rw [x3, hrd, if_neg (fun hh => hk2 hh.1)]
  by_cases c1 : (evAt l k).kd = 1
  · rw [if_pos c1] at hqa
    by_cases hq : q < (begs l k).length
    · exact hold (by rw [List.getElem?_append_left hq] at hqa; exact hqa)
    · have hq2 : q = (begs l k).length := by
        have := (List.getElem?_eq_some_iff.1 hqa).1
        rw [List.length_append, List.length_singleton] at this
        omega
      subst hq2
      rw [List.getElem?_append_right (Nat.le_refl _), Nat.sub_self] at hqa
      obtain rfl : k = a := by simpa using hqa
      have hTq : (trsF l l.length).getD (vn first (trsF l l.length) l k).next Tr.zero = tryF l k := by
        rw [← hlen, List.getD_eq_getElem?_getD, trsF_begs, List.getElem?_map, begs_pre l (k + 1) l.length hk (begs l k).length k (by
          show (if (evAt l k).kd = 1 then begs l k ++ [k] else begs l k)[_]? = _
          rw [if_pos c1, List.getElem?_append_right (Nat.le_refl _), Nat.sub_self]; rfl)]
        rfl
      have hlast : k ≤ (tryF l k).last := (tryF_rng hk).2.1
      refine tail _ k ⟨(trsF l l.length).getD (vn first (trsF l l.length) l k).next Tr.zero, [], (vn first (trsF l l.length) l k).commits, 0⟩ (Nat.le_refl _) ?_ hTq ?_ ?_ (fun hh => by omega) ?_
      · rw [hve, if_pos c1, List.getElem?_append_right (by rw [hVI.sl, hlen]; exact Nat.le_refl _), hVI.sl, hlen, Nat.sub_self]; rfl
      · dsimp only
        rw [hVR.cm, wrS_cnt_lt l (Nat.le_refl _), wrS_cnt_all']
      · dsimp only
        unfold rdsK
        rw [tryK_new, if_pos rfl, show k + 1 - k = 0 + 1 by omega, rdF_succ, if_neg]
        · rfl
        · unfold rdK
          rw [Nat.add_zero, c1]
          simp
      · intro _
        refine ⟨?_, ?_, ?_⟩
        · rw [hvo, if_pos c1]; exact hlen.symm
        · rw [← tryK_full, (tryK_fix l l.length k).1]
        · rw [hvn, if_pos c1]; exact Nat.succ_pos _
  · rw [if_neg c1] at hqa
    exact hold hqa
theorem SR.all {first : List Int} {l : List Ev} (hwf : ∀ e ∈ l, EvWf e) (hok : okTo l l.length) (hp : idxE plainE l < 0) (hf : idxE (farE first.length) l < 0) : ∀ k, k ≤ l.length → SR first (trsF l l.length) l k
  | 0, _ => fun q a h => by simp [begs] at h
  | k + 1, hk => (SR.all hwf hok hp hf k (by omega)).step hwf hok hp hf (by omega)
end Go.Proofs.Ytloiadhdkgkjkaa
/- The document's answer for chapter 16: Check and SameSights by contract. -/
namespace Go.Proofs.Ytloiadhdkgkjkaa
open Go.RowKit
set_option maxHeartbeats 40000000
set_option linter.unusedVariables false
set_option linter.unusedSimpArgs false
def chkR (first : List Int) (l : List Ev) : Int := if (seeOdd first.length l).2 ≠ 0 then 0 else idxG (sigR first l)
theorem sigR_len (first : List Int) (l : List Ev) : (sigR first l).length ≤ l.length := by
  unfold sigR
  split
  · simp
  · rw [List.length_map]; exact trsF_len l l.length
set_option maxRecDepth 100000 in
theorem rcheck16_b {w : World} {Fv : Value} {A : Option Addr} {cp : Nat} {first : List Int} {l : List Ev} (hF : Lies w Fv first) (hL : LiesV w (.slice A l.length cp) l) (hwf : ∀ e ∈ l, EvWf e) (hsz : l.length * 48 + 480 ≤ 140737488355328) (hfl : first.length ≤ 9223372036854775807) :
    Calls Try.prog 11 #[Fv, .slice A l.length cp] w fun x w' => Below w.heap.size w w' ∧ x = .returned (.tuple #[.int .i64 (chkR first l), .agg #[.int .i64 (seeOdd first.length l).1, .int .i64 (seeOdd first.length l).2]]) := by
  obtain ⟨Af, cf, rfl, -⟩ := (show ∃ A cp, Fv = .slice A first.length cp ∧ True from by obtain ⟨A, cp, h1, _⟩ := hF; exact ⟨A, cp, h1, trivial⟩)
  have hR1 := Blk.new w 28 #[.int .i64 0, .int .i64 0]
  have hb1 := (Below.refl w.heap.size w).alloc (Nat.le_refl _) (.cells #[.int .i64 0, .int .i64 0] 28)
  have C1 := Lib.hid (rsights_b (hF.below hb1) (hL.below hb1 (Nat.le_refl _)) hwf hsz hfl)
  have hsl := sigR_len first l
  obtain ⟨o1, ho1⟩ : ∃ o1, (seeOdd first.length l).1 = o1 := ⟨_, rfl⟩
  obtain ⟨o2, ho2⟩ : ∃ o2, (seeOdd first.length l).2 = o2 := ⟨_, rfl⟩
  obtain ⟨r, hr⟩ : ∃ r, chkR first l = r := ⟨_, rfl⟩
  rw [ho1, ho2] at C1 ⊢
  rw [hr]
  have hr2 : Hid (r = if o2 ≠ 0 then 0 else idxG (sigR first l)) := Lib.hid (by rw [← hr, ← ho2]; rfl)
  generalize sigR first l = L at *
  have hLi : (L.length : Int) ≤ 9223372036854775807 := by omega
  replace ho1 := Lib.hid ho1
  replace ho2 := Lib.hid ho2
  replace hr := Lib.hid hr
  replace hR1 := Lib.hid hR1
  replace hb1 := Lib.hid hb1
  clear hL hF hwf hsl
  go_enter Try.func11, Try.ntmps11
  go_wp2_with fail
  refine C1.out.mono ?_
  rintro _ w2 ⟨hb2, ov, rfl, hS2, ho2'⟩
  obtain ⟨AO, cO, rfl, -⟩ := hS2.shape
  have hR2 := hR1.out.below hb2 hR1.out.lt
  have hbw2 := hb1.out.trans (hb2.mono hb1.out.size)
  obtain ⟨w3, hw3⟩ : ∃ w3, w3 = w2.alloc (.cells #[.int .i64 o1, .int .i64 o2] 28) := ⟨_, rfl⟩
  have hR3 : Blk w3 w.heap.size 28 #[.int .i64 0, .int .i64 0] := by rw [hw3]; exact hR2.alloc _
  have hO3 : Blk w3 w2.heap.size 28 #[.int .i64 o1, .int .i64 o2] := by rw [hw3]; exact Blk.new _ _ _
  have hS3 : Hid (Sl 40 10 encG w3 (.slice AO L.length cO) L) := Lib.hid (by rw [hw3]; exact hS2.alloc _)
  have hb3 : Hid (Below w.heap.size w w3) := Lib.hid (by rw [hw3]; exact hbw2.alloc hbw2.size _)
  have hne : w.heap.size ≠ w2.heap.size := Nat.ne_of_lt hR2.lt
  have x0 := (hO3.cell 0).trans (show _ = some (.int .i64 o1) from rfl)
  have x1 := (hO3.cell 1).trans (show _ = some (.int .i64 o2) from rfl)
  have r0 := (hR3.cell 0).trans (show _ = some (.int .i64 0) from rfl)
  have r1 := (hR3.cell 1).trans (show _ = some (.int .i64 0) from rfl)
  have f0 := hR3.frozen 0
  have f1 := hR3.frozen 1
  subst hw3
  clear hb2 hR2 hbw2 C1 hb1 hR1 hS2 ho2' hR3 hO3
  by_cases hz : o2 = 0
  case neg =>
    have hz1 : (o2 != 0) = true := by simpa using hz
    rw [if_pos hz] at hr2
    replace hz := Lib.hid hz
    go_wp2
    refine wp_region_mixH (fun _ => True) [1, 3, 2] (List.range 3) (by kernel_rfl) (by kernel_rfl) (fun _ _ h => h) trivial ?_
    (repeat ((first | refine wpMixH_pure rfl rfl (fun K hK => ?_) | refine wpMixH_loc rfl rfl (fun K hK => ?_) | refine wpMixH_any rfl rfl (fun K hK => ?_)); go_simp; refine hK _ _ ?_; clear hK K))
    refine wpMixH_loud rfl rfl (fun n1 K hK => ?_)
    go_wp2
    refine hK _ _ (fun _ => trivial) ?_; clear hK K
    refine wpMixH_nil (fun n2 => ?_)
    go_wp2
    refine bodyPost_ret (v := .tuple #[.int .i64 0, .agg #[.int .i64 o1, .int .i64 o2]]) (by simp [results, Try.results11, go_sem, r0, r1, f0, f1]) rfl ⟨below_drewNs (((below_drewNs hb3.out _).setCell (Nat.le_refl _) _).setCell (Nat.le_refl _) _) _, by rw [hr2.out]⟩
  rw [if_neg (by simpa using hz)] at hr2
  subst hz
  go_wp2_with fail
  go_loopw [8] (fun c wr => ∃ k : Nat, k ≤ L.length ∧ c = .int .i64 (k : Int) ∧ wr = (w2.alloc (.cells #[.int .i64 o1, .int .i64 0] 28)) ∧ Hid (∀ j (hj : j < L.length), j < k → decide ((L[j]'hj).2 < 0) = false)) (fun c _ => L.length - (intOf c).toNat)
  case atStart => exact ⟨0, Nat.zero_le _, rfl, rfl, Lib.hid fun j hj h => by omega⟩
  case round =>
    obtain ⟨k, hk, rfl, rfl, hall⟩ := hrel
    by_cases hlt : k < L.length
    · have b1 : (k : Int) < L.length := by omega
      have w1 := IntWalk.i64_in (n := (k : Int) + 1) (by omega)
      obtain ⟨g, o, rfl, hg, hc⟩ := hS3.out.cell encG_len (by decide) hlt
      have d9 := (hc k hlt 9 (by decide)).1.trans (show _ = some (.int .i64 (L[k]'hlt).2) from rfl)
      rw [← Nat.add_assoc] at d9
      obtain ⟨z, hzz⟩ : ∃ z, (L[k]'hlt).2 = z := ⟨_, rfl⟩
      rw [hzz] at d9
      clear hc
      by_cases h0 : z < 0
      · have hi : Hid (r = (k : Int)) := Lib.hid (by rw [hr2.out]; exact idxG_some hlt (by rw [hzz]; exact decide_eq_true h0) fun j hj => hall.out j (by omega) hj)
        replace hzz := Lib.hid hzz
        go_wp2
        refine wp_region_mixH (fun _ => True) [3, 1, 3, 2] (List.range 4) (by kernel_rfl) (by kernel_rfl) (fun _ _ h => h) trivial ?_
        (repeat ((first | refine wpMixH_pure rfl rfl (fun K hK => ?_) | refine wpMixH_loc rfl rfl (fun K hK => ?_) | refine wpMixH_any rfl rfl (fun K hK => ?_)); go_simp; refine hK _ _ ?_; clear hK K))
        refine wpMixH_loud rfl rfl (fun n1 K hK => ?_)
        go_wp2
        refine hK _ _ (fun _ => trivial) ?_; clear hK K
        refine wpMixH_nil (fun n2 => ?_)
        go_wp2
        refine bodyPost_ret (v := .tuple #[.int .i64 k, .agg #[.int .i64 o1, .int .i64 0]]) (by simp [results, Try.results11, go_sem, r0, r1, f0, f1]) rfl ⟨below_drewNs (((below_drewNs hb3.out _).setCell (Nat.le_refl _) _).setCell (Nat.le_refl _) _) _, by rw [hi.out]⟩
      · replace hzz := Lib.hid hzz
        go_wp2
        go_roundw
        case rel => exact ⟨k + 1, hlt, by go_num, by trivial, Lib.hid fun j hj h => by
          by_cases e : j = k
          · subst e; rw [hzz.out]; exact decide_eq_false h0
          · exact hall.out j hj (by omega)⟩
        case measure => simp [intOf]; omega
    · have hi : Hid (r = -1) := Lib.hid (by rw [hr2.out]; exact idxG_none fun j hj => hall.out j hj (by omega))
      have b1 : ¬ (k : Int) < L.length := by omega
      clear hall
      go_wp2
      refine wp_region_mixH (fun _ => True) [1, 3, 2] (List.range 3) (by kernel_rfl) (by kernel_rfl) (fun _ _ h => h) trivial ?_
      (repeat ((first | refine wpMixH_pure rfl rfl (fun K hK => ?_) | refine wpMixH_loc rfl rfl (fun K hK => ?_) | refine wpMixH_any rfl rfl (fun K hK => ?_)); go_simp; refine hK _ _ ?_; clear hK K))
      refine wpMixH_loud rfl rfl (fun n1 K hK => ?_)
      go_wp2
      refine hK _ _ (fun _ => trivial) ?_; clear hK K
      refine wpMixH_nil (fun n2 => ?_)
      go_wp2
      refine bodyPost_ret (v := .tuple #[.int .i64 (-1), .agg #[.int .i64 o1, .int .i64 0]]) (by simp [results, Try.results11, go_sem, r0, r1, f0, f1]) rfl ⟨below_drewNs (((below_drewNs hb3.out _).setCell (Nat.le_refl _) _).setCell (Nat.le_refl _) _) _, by rw [hi.out]⟩
end Go.Proofs.Ytloiadhdkgkjkaa
/- Plain law of chapter 16: the sights are the document's. -/
namespace Go.Proofs.Ytloiadhdkgkjkaa
set_option maxHeartbeats 4000000
set_option linter.unusedVariables false
set_option linter.unusedSimpArgs false
theorem stS_hist (first : List Int) (l : List Ev) (W : List Nat) : ∀ j m, m ≤ j → (stS first l W j).2.getD m [] = (stS first l W m).1
  | 0, m, h => by
    have hm0 : m = 0 := by omega
    rw [hm0]
    rfl
  | j + 1, m, h => by
    have hl := (stS_len first l W j).2
    show ((stS first l W j).2 ++ [(stS first l W (j + 1)).1]).getD m [] = _
    rw [List.getD_eq_getElem?_getD]
    by_cases hm : m = j + 1
    · subst hm
      rw [List.getElem?_append_right (by omega), hl, Nat.sub_self]; rfl
    · rw [List.getElem?_append_left (by omega), ← List.getD_eq_getElem?_getD]
      exact stS_hist first l W j m (by omega)
theorem seek_at {cells : Nat → List (Nat × Int)} {L : List (List Int)} {reads : List (Int × Int)} {fr : Nat} : ∀ n, (∀ i, i < n → stoodW cells (fr + i) reads = stoodR (L.getD (fr + i) []) reads) → seekS cells reads fr (fr + n) = atR L reads fr n
  | 0, _ => by
    rw [Nat.add_zero]
    cases fr with
    | zero => rfl
    | succ m => show (if m < m + 1 then (-1 : Int) else _) = -1; rw [if_pos (Nat.lt_succ_self m)]
  | n + 1, h => by
    show (if fr + n < fr then (-1 : Int) else if stoodW cells (fr + n) reads = true then ((fr + n : Nat) : Int) else seekS cells reads fr (fr + n)) = if stoodR (L.getD (fr + n) []) reads = true then ((fr + n : Nat) : Int) else atR L reads fr n
    rw [if_neg (by omega), h n (Nat.lt_succ_self n), seek_at n (fun i hi => h i (by omega))]
theorem seek_all {cells : Nat → List (Nat × Int)} {L : List (List Int)} {reads : List (Int × Int)} {fr up : Nat} (h : ∀ m, m ≤ up → stoodW cells m reads = stoodR (L.getD m []) reads) : seekS cells reads fr (up + 1) = atR L reads fr (up + 1 - fr) := by
  by_cases hf : fr ≤ up + 1
  · have := seek_at (cells := cells) (L := L) (reads := reads) (fr := fr) (up + 1 - fr) (fun i hi => h _ (by omega))
    rw [show fr + (up + 1 - fr) = up + 1 by omega] at this
    exact this
  · rw [show up + 1 - fr = 0 by omega]
    show (if up < fr then (-1 : Int) else _) = -1
    rw [if_pos (by omega)]
theorem rdsK_words {l : List Ev} {a : Nat} (ha : a < l.length) : rdsK l l.length a = wordsR l (tryF l a) := by
  obtain ⟨h1, h2, h3⟩ := tryF_rng ha
  have hth : (tryF l a).th = (evAt l a).th := (tryK_fix l l.length a).1
  unfold rdsK wordsR
  rw [tryK_full, h1, hth]
  by_cases h0 : (tryF l a).how = 0
  · rw [if_pos h0]
    exact rdF_quiet (by omega) fun j g1 g2 => tryK_quiet ha (by rw [tryK_full]; exact h0) (a + j) (by rw [tryK_full]; omega) (by omega)
  · rw [if_neg h0]
theorem encG_congr {x y : Sg} {p q : Int} (h1 : x.tr = y.tr) (h2 : x.fr = y.fr) (h3 : x.upto = y.upto) (h4 : p = q) : encG (x, p) = encG (y, q) := by
  unfold encG
  dsimp only
  rw [h1, h2, h3, h4]
theorem sig_eq {first : List Int} {l : List Ev} (hwf : ∀ e ∈ l, EvWf e) : (sigA first l).map encG = (sigR first l).map encG := by
  unfold sigA sigR
  by_cases hz : (seeOdd first.length l).2 ≠ 0
  · rw [if_pos hz, if_pos hz]
  rw [if_neg hz, if_neg hz]
  have hso := seeOdd_zero (n := first.length) (l := l) (Classical.byContradiction hz)
  obtain ⟨-, hodd, hp, hf⟩ := seeOdd_ok hso
  have hok := okTo_of_odd hodd l.length (Nat.le_refl _)
  have hT := rn_trsF hwf hok
  unfold vAll sightsOf
  rw [hT]
  have hVI := VI.vn (T := trsF l l.length) hwf hok hp hf (Nat.le_refl _)
  have hVJ := VJ.vn (T := trsF l l.length) (first := first) hwf hf (Nat.le_refl _)
  have hVR := VR.all (T := trsF l l.length) hwf hok hp hf l.length (Nat.le_refl _)
  have hSR := SR.all hwf hok hp hf l.length (Nat.le_refl _)
  have hlen : (vn first (trsF l l.length) l l.length).sights.length = (begs l l.length).length := by rw [hVI.sl, hVI.nx, rn_tries hwf hok _ (Nat.le_refl _), List.length_map]
  rw [List.map_map, List.map_map, trsF_begs, List.map_map]
  rw [← trsF_begs]
  apply List.ext_getElem?
  intro q
  rw [List.getElem?_map, List.getElem?_map]
  by_cases hq : q < (begs l l.length).length
  · have hqa := List.getElem?_eq_getElem hq
    generalize (begs l l.length)[q] = a at hqa
    have ha : a < l.length := begs_lt l _ a (List.mem_of_getElem? hqa)
    obtain ⟨x, hx, x1, x2, x3, x4⟩ := hSR q a hqa
    obtain ⟨y1, y2, y3⟩ := tryF_rng ha
    rw [hqa, hx]
    simp only [Option.map_some, Function.comp]
    congr 1
    have hfr : x.fr = frR (wrS l l.length).2 (tryF l a) := by rw [x2]; unfold frR; rw [y1]
    have hup : x.upto = upR (wrS l l.length).2 (tryF l a) := x4 y3
    have hrd : x.reads = wordsR l (tryF l a) := by rw [x3, rdsK_words ha]
    unfold siR
    refine encG_congr x1 hfr hup ?_
    unfold atOf
    rw [hrd, hfr, hup]
    refine seek_all fun m hm => ?_
    have hmW : m ≤ (wrS l l.length).2.length := Nat.le_trans hm (List.countP_le_length ..)
    have hxr := hVJ.rd x (List.mem_of_getElem? hx)
    rw [hrd] at hxr
    unfold stoodW stoodR
    rw [Bool.eq_iff_iff, List.all_eq_true, List.all_eq_true]
    have hpt : ∀ p ∈ wordsR l (tryF l a), atW ((vn first (trsF l l.length) l l.length).cells p.1.toNat) m = ((stS first l (wrS l l.length).2 (wrS l l.length).2.length).2.getD m []).getD p.1.toNat 0 := fun p hpp => by
      obtain ⟨g1, g2⟩ := hxr p hpp
      rw [stS_hist _ _ _ _ _ hmW]
      exact hVR.ce m (by rw [hVR.cm]; exact hmW) _ (by omega)
    constructor
    · intro hh p hpp; rw [← hpt p hpp]; exact hh p hpp
    · intro hh p hpp; rw [hpt p hpp]; exact hh p hpp
  · rw [List.getElem?_eq_none (by rw [hlen]; omega), List.getElem?_eq_none (by omega)]
    rfl
theorem idxG_congr {a b : List (Sg × Int)} (h : a.map encG = b.map encG) : idxG a = idxG b := by
  have h2 : a.map (fun x => x.2) = b.map (fun x => x.2) := by
    have hl : a.length = b.length := by have := congrArg List.length h; simpa using this
    apply List.ext_getElem?
    intro q
    have hq : (a.map encG)[q]? = (b.map encG)[q]? := by rw [h]
    rw [List.getElem?_map, List.getElem?_map] at hq ⊢
    cases ha : a[q]? with
    | none =>
      cases hb : b[q]? with
      | none => rfl
      | some y => rw [ha, hb] at hq; cases hq
    | some x =>
      cases hb : b[q]? with
      | none => rw [ha, hb] at hq; cases hq
      | some y =>
        rw [ha, hb] at hq
        have e : encG x = encG y := by simpa using hq
        unfold encG at e
        simp at e
        simp [e.2.2.2.2.2.2.2.2.2]
  have key : ∀ l : List (Sg × Int), l.findIdx? (fun x => decide (x.2 < 0)) = (l.map (fun x => x.2)).findIdx? (fun z => decide (z < 0)) := fun l => by rw [List.findIdx?_map]; rfl
  unfold idxG
  rw [key a, key b, h2]
theorem chk_eq {first : List Int} {l : List Ev} (hwf : ∀ e ∈ l, EvWf e) : chkA first l = chkR first l := by
  have h := idxG_congr (sig_eq (first := first) hwf)
  unfold chkA chkR
  by_cases hz : (seeOdd first.length l).2 ≠ 0
  · rw [if_pos hz, if_pos hz]
  · rw [if_neg hz, if_neg hz, ← h]
    unfold sigA
    rw [if_neg hz]
end Go.Proofs.Ytloiadhdkgkjkaa
/- OpaqueMeans, plain: what each attempt's sight says of its reads; what never stood there was seen by one that has seen what never was; behind no commit the cells are the first words. -/
namespace Go.Proofs.Ytloiadhdkgkjkaa
set_option maxHeartbeats 1000000
set_option linter.unusedVariables false
set_option linter.unusedSimpArgs false
section
variable {first : List Int} {l : List Ev}
/-- All that holds of what see gathers of a history that can be. -/
structure AllV (first : List Int) (l : List Ev) : Prop where
  vi : VI (vAll first l) (rn l l.length) l.length first.length
  vj : VJ (vAll first l) first.length
  vr : VR first (rn l l.length).tries l l.length
  sr : SR first (rn l l.length).tries l l.length
  bl : (vAll first l).sights.length = (begs l l.length).length
  ok : okTo l l.length
  pl : idxE plainE l < 0
  fa : idxE (farE first.length) l < 0
theorem allV (hwf : ∀ e ∈ l, EvWf e) (hso : seeOdd first.length l = (-1, 0)) : AllV first l := by
  obtain ⟨-, hodd, hp, hf⟩ := seeOdd_ok hso
  have hok := okTo_of_odd hodd l.length (Nat.le_refl _)
  have hT := rn_trsF hwf hok
  have hVI := VI.vn (T := (rn l l.length).tries) (first := first) hwf hok hp hf (Nat.le_refl _)
  refine ⟨hVI, VJ.vn (first := first) hwf hf (Nat.le_refl _), VR.all hwf hok hp hf l.length (Nat.le_refl _), ?_, ?_, hok, hp, hf⟩
  · rw [hT]; exact SR.all hwf hok hp hf l.length (Nat.le_refl _)
  · unfold vAll; rw [hVI.sl, hVI.nx, rn_tries hwf hok _ (Nat.le_refl _), List.length_map]
theorem AllV.beh (h : AllV first l) {n : Nat} (hn : n ≤ (vAll first l).commits) : behindL (vAll first l).cells n first.length = (stS first l (wrS l l.length).2 n).1 := by
  have hl := (stS_len first l (wrS l l.length).2 n).1
  apply List.ext_getElem?
  intro a
  unfold behindL
  rw [List.getElem?_map]
  rcases Nat.lt_or_ge a first.length with ha | ha
  · rw [List.getElem?_range ha, Option.map_some, List.getElem?_eq_getElem (by omega)]
    have := h.vr.ce n hn a ha
    rw [List.getD_eq_getElem?_getD, List.getElem?_eq_getElem (by omega)] at this
    exact congrArg some this
  · rw [List.getElem?_eq_none (by simpa using ha), List.getElem?_eq_none (by omega)]
    rfl
theorem AllV.begin_ (h : AllV first l) : behindL (vAll first l).cells 0 first.length = first := h.beh (Nat.zero_le _)
theorem seekS_lt (cells : Nat → List (Nat × Int)) (reads : List (Int × Int)) (fr : Nat) : ∀ n, seekS cells reads fr n < n
  | 0 => by unfold seekS; omega
  | n + 1 => by
    have := seekS_lt cells reads fr n
    unfold seekS
    repeat' split
    all_goals omega
theorem seekS_yes (cells : Nat → List (Nat × Int)) (reads : List (Int × Int)) (fr : Nat) : ∀ n, 0 ≤ seekS cells reads fr n → (fr : Int) ≤ seekS cells reads fr n ∧ stoodW cells (seekS cells reads fr n).toNat reads = true
  | 0, h => by unfold seekS at h; omega
  | n + 1, h => by
    unfold seekS at h ⊢
    split
    · rename_i h1; rw [if_pos h1] at h; omega
    · rename_i h1
      rw [if_neg h1] at h
      split
      · rename_i h2; exact ⟨by omega, by simpa using h2⟩
      · rename_i h2
        rw [if_neg h2] at h
        exact seekS_yes cells reads fr n h
theorem seekS_none {cells : Nat → List (Nat × Int)} {reads : List (Int × Int)} {fr : Nat} (h : ∀ m, stoodW cells m reads = false) : ∀ n, seekS cells reads fr n = -1
  | 0 => rfl
  | n + 1 => by
    unfold seekS
    rw [h n]
    split
    · rfl
    · rw [if_neg (by decide)]; exact seekS_none h n
theorem atW_mem {l : List (Nat × Int)} (hl : l ≠ []) (n : Nat) : ∃ p ∈ l, p.2 = atW l n := by
  have hpos : 0 < l.length := List.length_pos_iff.2 hl
  have hd := dn_le l n (l.length - 1)
  have hlt : dn l n (l.length - 1) < l.length := by omega
  refine ⟨l[dn l n (l.length - 1)], List.getElem_mem hlt, ?_⟩
  unfold atW
  rw [getD_cell hlt]
theorem stood_seen {cells : Nat → List (Nat × Int)} {reads : List (Int × Int)} {c : Int × Int} (hne : cells c.1.toNat ≠ []) (hc : c ∈ reads) (hs : seenB cells c = false) (m : Nat) : stoodW cells m reads = false := by
  unfold stoodW
  rw [List.all_eq_false]
  refine ⟨c, hc, ?_⟩
  obtain ⟨p, hp, e⟩ := atW_mem hne m
  unfold seenB at hs
  rw [List.any_eq_false] at hs
  have := hs p hp
  rw [e] at this
  exact this
theorem idxG_pos {L : List (Sg × Int)} {x : Sg × Int} (hx : x ∈ L) (h : x.2 < 0) : 0 ≤ idxG L := by
  unfold idxG
  cases hf : L.findIdx? (fun x => decide (x.2 < 0)) with
  | some i => dsimp only; omega
  | none =>
    have := List.findIdx?_eq_none_iff.1 hf x hx
    simp at this
    omega
theorem ddT_mem (l : List (Int × Int)) {c : Int × Int} : ∀ n, c ∈ ddT l n → ∃ j, j < n ∧ c = l.getD j (0, 0)
  | 0, h => by simp [ddT] at h
  | n + 1, h => by
    unfold ddT at h
    split at h
    · rcases List.mem_append.1 h with h | h
      · obtain ⟨j, hj, e⟩ := ddT_mem l n h; exact ⟨j, by omega, e⟩
      · rw [List.mem_singleton] at h; exact ⟨n, by omega, h⟩
    · obtain ⟨j, hj, e⟩ := ddT_mem l n h; exact ⟨j, by omega, e⟩
theorem compC_mem {l : List (Int × Int)} {c : Int × Int} (h : c ∈ compC l) : c ∈ l := by
  obtain ⟨j, hj, e⟩ := ddT_mem l _ h
  rw [e, List.getD_eq_getElem?_getD, List.getElem?_eq_getElem hj]
  exact List.getElem_mem hj
theorem neverL_mem {v : Vw} {c : Int × Int} (h : c ∈ neverL v) : c ∈ nevU v := by
  have := compC_mem h
  unfold srtC at this
  exact List.mem_mergeSort.1 this
theorem AllV.never (h : AllV first l) (hn : neverL (vAll first l) ≠ []) : 0 ≤ idxG (sightsOf (vAll first l)) := by
  obtain ⟨c, hc⟩ := List.exists_mem_of_ne_nil _ hn
  have hu := neverL_mem hc
  unfold nevU at hu
  rw [List.mem_filter, List.mem_flatMap] at hu
  obtain ⟨⟨x, hx, hcx⟩, hs⟩ := hu
  have hs' : seenB (vAll first l).cells c = false := by simpa using hs
  have hr := h.vj.rd x hx c hcx
  have hne := (h.vj.z c.1.toNat (by omega)).1
  refine idxG_pos (x := (x, atOf (vAll first l).cells x)) ?_ ?_
  · unfold sightsOf; exact List.mem_map.2 ⟨x, hx, rfl⟩
  · dsimp only
    unfold atOf
    rw [seekS_none (fun m => stood_seen hne hcx hs' m)]
    decide
/-- What holds of an attempt's sight. -/
structure MS (first : List Int) (l : List Ev) (x : Sg × Int) : Prop where
  la : x.1.tr.last < l.length
  fl : x.1.tr.first ≤ x.1.tr.last + 1
  wd : rdF l x.1.tr.th x.1.tr.first (x.1.tr.last + 1 - x.1.tr.first) = x.1.reads
  rg : ∀ p ∈ x.1.reads, 0 ≤ p.1 ∧ p.1 < (first.length : Int)
  fu : x.1.fr ≤ x.1.upto
  au : x.2 ≤ x.1.upto
  af : 0 ≤ x.2 → (x.1.fr : Int) ≤ x.2 ∧ x.2.toNat ∈ togK (vAll first l).cells x.1.reads ((vAll first l).commits + 1)
  em : x.1.reads = [] → x.2 = x.1.upto
theorem AllV.ms (h : AllV first l) : ∀ x ∈ sightsOf (vAll first l), MS first l x := by
  intro z hz
  unfold sightsOf at hz
  obtain ⟨x, hx, rfl⟩ := List.mem_map.1 hz
  obtain ⟨q, hq, hqx⟩ := List.mem_iff_getElem.1 hx
  have hqb : q < (begs l l.length).length := by rw [← h.bl]; exact hq
  have hqa := List.getElem?_eq_getElem hqb
  generalize (begs l l.length)[q] = a at hqa
  have ha : a < l.length := begs_lt l _ a (List.mem_of_getElem? hqa)
  obtain ⟨x', hx', x1, x2, x3, x4⟩ := h.sr q a hqa
  have hq2 : (vAll first l).sights[q]? = some x := by rw [List.getElem?_eq_getElem hq, hqx]
  have : x' = x := by
    have e : (vAll first l).sights[q]? = some x' := hx'
    rw [hq2] at e
    injection e with e
    exact e.symm
  subst this
  obtain ⟨y1, y2, y3⟩ := tryF_rng ha
  have hup := x4 y3
  have hrd : x'.reads = wordsR l (tryF l a) := by rw [x3, rdsK_words ha]
  have hfu : x'.fr ≤ x'.upto := by
    rw [x2, hup]
    exact List.countP_mono_left fun c _ hc => by simp at hc ⊢; omega
  refine ⟨?_, ?_, ?_, h.vj.rd x' hx, hfu, ?_, ?_, ?_⟩
  · dsimp only; rw [x1]; exact y3
  · dsimp only; rw [x1]; omega
  · dsimp only; rw [x1, hrd]; rfl
  · have := seekS_lt (vAll first l).cells x'.reads x'.fr (x'.upto + 1)
    show seekS (vAll first l).cells x'.reads x'.fr (x'.upto + 1) ≤ (x'.upto : Int)
    omega
  · intro h0
    have h1 := seekS_yes (vAll first l).cells x'.reads x'.fr (x'.upto + 1) h0
    refine ⟨h1.1, ?_⟩
    have h2 : atOf (vAll first l).cells x' < ((x'.upto + 1 : Nat) : Int) := seekS_lt (vAll first l).cells x'.reads x'.fr (x'.upto + 1)
    have h3 := (h.vj.up x' hx).2
    unfold togK
    rw [List.mem_filter, List.mem_range]
    refine ⟨?_, h1.2⟩
    show (atOf (vAll first l).cells x').toNat < (vAll first l).commits + 1
    omega
  · intro he
    show atOf _ _ = _
    unfold atOf seekS
    dsimp only at he
    rw [if_neg (by omega), he, if_pos (by rfl)]
end
end Go.Proofs.Ytloiadhdkgkjkaa
/- Two lists of sights that are the same: SameSights by contract. -/
namespace Go.Proofs.Ytloiadhdkgkjkaa
open Go.RowKit
set_option maxHeartbeats 40000000
set_option linter.unusedVariables false
set_option linter.unusedSimpArgs false
theorem try_equal (d : Nat) (a b c e f g h : Int) (w : World) : (Op.equalIn (d + 1 + 1) 38 (.agg #[.int .i64 a, .int .i64 b, .int .i64 c, .int .u64 e, .int .i64 f, .int .i64 g, .int .i64 h]) (.agg #[.int .i64 a, .int .i64 b, .int .i64 c, .int .u64 e, .int .i64 f, .int .i64 g, .int .i64 h])).run Try.prog w = .ok true w := by
  have h1 : Try.prog.underlying 38 = some _ := Try.underlying38
  have hi : ∀ (t : TypeId) (n m : Int) (k : IntKind) (d : Nat), Try.prog.underlying t = some (TypeDesc.int k) → (Op.equalIn (d + 1) t (.int k n) (.int k m)).run Try.prog w = .ok (n == m) w := fun t n m k d ht => run_equalIn_int w d t k k n m ht
  have hsi : Try.prog.stoodInHeld 38 = false := by kernel_rfl
  have u1 : Try.prog.underlying 3 = some _ := Try.underlying3
  have u3 : Try.prog.underlying 35 = some _ := Try.underlying35
  have u5 : Try.prog.underlying 36 = some _ := Try.underlying36
  have c1 : Try.prog.cellsOf 3 = 1 := by kernel_rfl
  have c3 : Try.prog.cellsOf 35 = 1 := by kernel_rfl
  have c5 : Try.prog.cellsOf 36 = 1 := by kernel_rfl
  rw [Op.equalIn]
  simp [run_underlying h1, part, hi, u1, u3, u5, c1, c3, c5, hsi, sizeOf, typeInfo]
theorem sight_equal (a b c e f g h i j k : Int) (w : World) : (Op.equalIn 10000 40 (.agg #[.int .i64 a, .int .i64 b, .int .i64 c, .int .u64 e, .int .i64 f, .int .i64 g, .int .i64 h, .int .i64 i, .int .i64 j, .int .i64 k]) (.agg #[.int .i64 a, .int .i64 b, .int .i64 c, .int .u64 e, .int .i64 f, .int .i64 g, .int .i64 h, .int .i64 i, .int .i64 j, .int .i64 k])).run Try.prog w = .ok true w := by
  have h1 : Try.prog.underlying 40 = some _ := Try.underlying40
  have hi : ∀ (t : TypeId) (n m : Int) (k : IntKind) (d : Nat), Try.prog.underlying t = some (TypeDesc.int k) → (Op.equalIn (d + 1) t (.int k n) (.int k m)).run Try.prog w = .ok (n == m) w := fun t n m k d ht => run_equalIn_int w d t k k n m ht
  have hsi : Try.prog.stoodInHeld 40 = false := by kernel_rfl
  have ht := fun d => try_equal d a b c e f g h w
  have u1 : Try.prog.underlying 3 = some _ := Try.underlying3
  have c1 : Try.prog.cellsOf 3 = 1 := by kernel_rfl
  have c7 : Try.prog.cellsOf 38 = 7 := by kernel_rfl
  obtain ⟨i0, hi0, hz0, hz1, hz2⟩ := info_parts try_info
  have hd : 10000 = 9997 + 1 + 1 + 1 := rfl
  rw [hd]
  generalize 9997 = d at *
  rw [Op.equalIn]
  simp [run_underlying h1, part, hi, ht, u1, c1, c7, hsi, sizeOf, typeInfo, hi0, hz1]
theorem sight_neq (a b c e f g h i j k : Int) (w : World) : (binOp .neq 40 (.agg #[.int .i64 a, .int .i64 b, .int .i64 c, .int .u64 e, .int .i64 f, .int .i64 g, .int .i64 h, .int .i64 i, .int .i64 j, .int .i64 k]) (.agg #[.int .i64 a, .int .i64 b, .int .i64 c, .int .u64 e, .int .i64 f, .int .i64 g, .int .i64 h, .int .i64 i, .int .i64 j, .int .i64 k])).run Try.prog w = .ok (.bool false) w := by
  rw [run_neq_struct (P := Try.prog) w 40 #[.int .i64 a, .int .i64 b, .int .i64 c, .int .u64 e, .int .i64 f, .int .i64 g, .int .i64 h, .int .i64 i, .int .i64 j, .int .i64 k] #[.int .i64 a, .int .i64 b, .int .i64 c, .int .u64 e, .int .i64 f, .int .i64 g, .int .i64 h, .int .i64 i, .int .i64 j, .int .i64 k], sight_equal]
  rfl
set_option maxRecDepth 100000 in
theorem rsameS_b {w : World} {va vb : Value} {l : List (Sg × Int)} (h1 : Sl 40 10 encG w va l) (h2 : Sl 40 10 encG w vb l) (hlen : (l.length : Int) ≤ 9223372036854775807) :
    Calls Try.prog 12 #[va, vb] w fun x w' => x = .returned (.bool true) ∧ ∃ n, w' = w.drewN n := by
  obtain ⟨A1, c1, rfl, -⟩ := h1.shape
  obtain ⟨A2, c2, rfl, -⟩ := h2.shape
  have hq := sight_neq
  go_enter Try.func12, Try.ntmps12
  go_wp2
  go_loopg [5] l.length (fun gk c5 wr => ∃ j nd : Nat, gk + j = l.length ∧ c5 = .int .i64 (j : Int) ∧ wr = w.drewN nd)
  case atStart => exact ⟨0, 0, rfl, rfl, rfl⟩
  case round =>
    obtain ⟨j, nd, hj, rfl, rfl⟩ := hrel
    rcases Nat.lt_or_ge j l.length with hlt | hge
    · obtain ⟨g1, o1, rfl, -, d⟩ := h1.cell encG_len (by decide) hlt
      obtain ⟨g2, o2, rfl, -, f⟩ := h2.cell encG_len (by decide) hlt
      have dd := fun q h => (d j hlt q h).1
      have ff := fun q h => (f j hlt q h).1
      generalize l[j] = e at *
      obtain ⟨⟨⟨a, b, c, e, f9f, g, h⟩, rr, i, jj⟩, k⟩ := e
      have d0 := dd 0 (by decide)
      have d1 := dd 1 (by decide)
      have d2 := dd 2 (by decide)
      have d3 := dd 3 (by decide)
      have d4 := dd 4 (by decide)
      have d5 := dd 5 (by decide)
      have d6 := dd 6 (by decide)
      have d7 := dd 7 (by decide)
      have d8 := dd 8 (by decide)
      have d9 := dd 9 (by decide)
      have f0 := ff 0 (by decide)
      have f1 := ff 1 (by decide)
      have f2 := ff 2 (by decide)
      have f3 := ff 3 (by decide)
      have f4 := ff 4 (by decide)
      have f5 := ff 5 (by decide)
      have f6 := ff 6 (by decide)
      have f7 := ff 7 (by decide)
      have f8 := ff 8 (by decide)
      have f9 := ff 9 (by decide)
      simp only [encG, List.getElem?_cons_zero, List.getElem?_cons_succ, Nat.add_zero] at d0 d1 d2 d3 d4 d5 d6 d7 d8 d9 f0 f1 f2 f3 f4 f5 f6 f7 f8 f9
      simp only [← Nat.add_assoc] at d1 d2 d3 d4 d5 d6 d7 d8 d9 f1 f2 f3 f4 f5 f6 f7 f8 f9
      have b1 : (j : Int) < l.length := by omega
      clear dd ff
      go_wp2
      go_quiet (fail)
      go_wp2
      obtain ⟨k, rfl⟩ : ∃ k, gk = k + 1 := ⟨gk - 1, by omega⟩
      go_roundg k
      case measure => omega
      case rel => exact ⟨j + 1, nd + nq, by omega, by simp, rfl⟩
    · go_wp2
      go_ret
      exact ⟨rfl, nd, rfl⟩
end Go.Proofs.Ytloiadhdkgkjkaa
/- The law's lent and left by contract: a history lent with a mark behind it. -/
namespace Go.Proofs.Ytloiadhdkgkjkaa
open Go.RowKit
set_option maxHeartbeats 40000000
set_option linter.unusedVariables false
set_option linter.unusedSimpArgs false
def markE : Ev := ⟨-7, 0, 0, 0, false, 0⟩
set_option maxRecDepth 100000 in
theorem lent_b {w : World} {A : Option Addr} {cp : Nat} {l : List Ev} (hL : LiesV w (.slice A l.length cp) l) (hsz : l.length * 48 + 480 ≤ 140737488355328) :
    Calls Try.prog 7 #[.slice A l.length cp] w fun x w' => Below w.heap.size w w' ∧ ∃ A' cap, x = .returned (.slice A' l.length cap) ∧ l.length + 1 ≤ cap ∧ Sl 61 6 encV w' (.slice A' (l.length + 1) cap) (l ++ [markE]) ∧ ∀ q, own (.slice A' (l.length + 1) cap) q → w.heap.size ≤ q := by
  have hsrc := Lib.hid hL.src
  have hlen : (l.length : Int) ≤ 9223372036854775807 := by omega
  have hz : Hid (l.length * 48 ≤ 140737488355328) := Lib.hid (by omega)
  have hz1 : Hid ((l.length + 1) * 48 ≤ 140737488355328) := Lib.hid (by omega)
  clear hL
  go_enter Try.func7, Try.ntmps7
  go_wp2_with (at_builtin; first | (refine wpList_evsN l.length w rfl (.const (.slice none 0 0)) (.tmp 4) rfl (.slice none 0 0) _ [] l l rfl (Sl.nil _) rfl hsrc.out (by simp) (by simp) (by have := hz.out; omega) hz.out ?_; intro A1 c1 w1 hc1 H1 f1; have W1 := (Sl.new (e := 61) encV_len w1 [markE] (by decide)).src encV_one) | (refine wpList_evsN (l.length + 1) (w1.alloc _) rfl (.tmp 5) (.tmp 7) rfl _ _ l [markE] (l ++ [markE]) rfl (H1.alloc _) rfl W1 rfl rfl (by have := hz1.out; omega) hz1.out ?_; intro A2 c2 w2 hc2 H2 f2))
  go_ret
  have e1 : ∀ q, own (.slice A1 l.length c1) q → w.heap.size ≤ q := f1.ge (fun q hq => absurd hq (no_own_nil q)) (Nat.le_refl _)
  have b1 : Below w.heap.size w w1 := f1.below (fun q hq => absurd hq (no_own_nil q)) (Nat.le_refl _)
  exact ⟨(b1.alloc b1.size _).trans (f2.below e1 (b1.alloc b1.size _).size), A2, c2, rfl, hc2, H2, f2.ge e1 (b1.alloc b1.size _).size⟩
theorem Sl.lcut {w : World} {A : Option Addr} {cap : Nat} {l : List Ev} (h : Sl 61 6 encV w (.slice A (l.length + 1) cap) (l ++ [markE])) (hc : l.length + 1 ≤ cap) : Sl 61 6 encV w (.slice A l.length cap) l := by
  have := Sl.cut encV_len h (m := l.length) (c := cap) (by simp) (by omega) (Nat.le_refl _)
  rwa [List.take_left] at this
set_option maxRecDepth 100000 in
theorem left_b {w : World} {A A2 : Option Addr} {cap cp : Nat} {l : List Ev} {va vb : Value} {first : List Int} (hM : Sl 61 6 encV w (.slice A (l.length + 1) cap) (l ++ [markE])) (hc : l.length + 1 ≤ cap) (hL : LiesV w (.slice A2 l.length cp) l) (hwf : ∀ e ∈ l, EvWf e) (hsz : l.length * 48 + 480 ≤ 140737488355328)
    (h1 : Lies w va first) (h2 : Lies w vb first) (hf : (first.length : Int) ≤ 9223372036854775807) :
    Calls Try.prog 13 #[.slice A l.length cap, .slice A2 l.length cp, va, vb] w fun x w' => x = .returned (.bool true) ∧ ∃ n, w' = w.drewN n := by
  have hlen : (l.length : Int) ≤ 9223372036854775807 := by omega
  have w1 := IntWalk.i64_in (n := (l.length : Int) + 1) (by omega)
  have hcI : (l.length : Int) + 1 ≤ cap := by omega
  have CS := Lib.hid (rsame_b ((hM.lcut hc).liesV hwf (by have := hL.len; omega)) hL)
  have CW := Lib.hid (fun n => words_b (h1.drewN n) (h2.drewN n) hf)
  have hM' : Sl 61 6 encV w (.slice A (l ++ [markE]).length cap) (l ++ [markE]) := by rw [List.length_append]; exact hM
  obtain ⟨g, o, rfl, hg, hcl⟩ := hM'.cell encV_len (by decide) (i := l.length) (by simp)
  have d0 := (hcl l.length (by simp) 0 (by decide)).1
  rw [List.getElem_append_right (Nat.le_refl _)] at d0
  simp only [Nat.sub_self, List.getElem_cons_zero, encV, markE, List.getElem?_cons_zero, Nat.add_zero] at d0
  have hc0 : ((cap : Nat) = 0) = False := by simp; omega
  clear hM hM' hcl hL h1 h2 hwf
  go_enter Try.func13, Try.ntmps13
  go_wp2_with fail
  refine CS.out.mono ?_
  rintro _ _ ⟨rfl, n1, rfl⟩
  go_wp2_with fail
  refine (CW.out n1).mono ?_
  rintro _ _ ⟨⟨n2, rfl⟩, rfl⟩
  go_wp2
  go_ret
  exact ⟨by simp, n1 + n2, rfl⟩
end Go.Proofs.Ytloiadhdkgkjkaa
/- A sight laid over another one, cell by cell. -/
namespace Go.Proofs.Ytloiadhdkgkjkaa
open Go.RowKit
set_option maxHeartbeats 4000000
set_option linter.unusedVariables false
theorem Sl.updK {w : World} {g o n cap k : Nat} {L : List (Sg × Int)} {x x' : Sg × Int} (h : Sl 40 10 encG w (.slice (some ⟨g, o, none⟩) n cap) (L.set k x)) (hk : k < L.length) (j : Nat) (hj : j < 10) (u : Value) (hx : encG x' = (encG x).set j u) :
    Sl 40 10 encG (w.setCell ⟨g, o + k * 10 + j, none⟩ u) (.slice (some ⟨g, o, none⟩) n cap) (L.set k x') := by
  have h1 := h.upd encG_len (i := k) (by rw [List.length_set]; exact hk) hj u x' (by rw [List.getElem_set_self]; exact hx)
  rw [List.set_set, ← Nat.add_assoc] at h1
  exact h1
theorem Sl.put10 {w : World} {g o n cap k : Nat} {L : List (Sg × Int)} (h : Sl 40 10 encG w (.slice (some ⟨g, o, none⟩) n cap) L) (hk : k < L.length) (th sn ho z : Int) (fi la rd wt fr up : Nat) :
    ∃ rr, Sl 40 10 encG ((((((((((w.setCell ⟨g, o + k * 10, none⟩ (.int .i64 th)).setCell ⟨g, o + k * 10 + 1, none⟩ (.int .i64 fi)).setCell ⟨g, o + k * 10 + 2, none⟩ (.int .i64 la)).setCell ⟨g, o + k * 10 + 3, none⟩ (.int .u64 sn)).setCell ⟨g, o + k * 10 + 4, none⟩ (.int .i64 ho)).setCell ⟨g, o + k * 10 + 5, none⟩ (.int .i64 rd)).setCell ⟨g, o + k * 10 + 6, none⟩ (.int .i64 wt)).setCell ⟨g, o + k * 10 + 7, none⟩ (.int .i64 fr)).setCell ⟨g, o + k * 10 + 8, none⟩ (.int .i64 up)).setCell ⟨g, o + k * 10 + 9, none⟩ (.int .i64 z)) (.slice (some ⟨g, o, none⟩) n cap) (L.set k ((⟨⟨th, fi, la, sn, ho, rd, wt⟩, rr, fr, up⟩ : Sg), z)) := by
  have h0 : Sl 40 10 encG w (.slice (some ⟨g, o, none⟩) n cap) (L.set k (L[k]'hk)) := by rw [List.set_getElem_self]; exact h
  generalize (L[k]'hk) = x at h0
  obtain ⟨⟨⟨oth, ofi, ola, osn, oho, ord, owt⟩, rr, ofr, oup⟩, oz⟩ := x
  refine ⟨rr, ?_⟩
  have h1 := h0.updK (x' := ((⟨⟨th, ofi, ola, osn, oho, ord, owt⟩, rr, ofr, oup⟩ : Sg), oz)) hk 0 (by decide) (.int .i64 th) rfl
  have h2 := h1.updK (x' := ((⟨⟨th, fi, ola, osn, oho, ord, owt⟩, rr, ofr, oup⟩ : Sg), oz)) hk 1 (by decide) (.int .i64 fi) rfl
  have h3 := h2.updK (x' := ((⟨⟨th, fi, la, osn, oho, ord, owt⟩, rr, ofr, oup⟩ : Sg), oz)) hk 2 (by decide) (.int .i64 la) rfl
  have h4 := h3.updK (x' := ((⟨⟨th, fi, la, sn, oho, ord, owt⟩, rr, ofr, oup⟩ : Sg), oz)) hk 3 (by decide) (.int .u64 sn) rfl
  have h5 := h4.updK (x' := ((⟨⟨th, fi, la, sn, ho, ord, owt⟩, rr, ofr, oup⟩ : Sg), oz)) hk 4 (by decide) (.int .i64 ho) rfl
  have h6 := h5.updK (x' := ((⟨⟨th, fi, la, sn, ho, rd, owt⟩, rr, ofr, oup⟩ : Sg), oz)) hk 5 (by decide) (.int .i64 rd) rfl
  have h7 := h6.updK (x' := ((⟨⟨th, fi, la, sn, ho, rd, wt⟩, rr, ofr, oup⟩ : Sg), oz)) hk 6 (by decide) (.int .i64 wt) rfl
  have h8 := h7.updK (x' := ((⟨⟨th, fi, la, sn, ho, rd, wt⟩, rr, fr, oup⟩ : Sg), oz)) hk 7 (by decide) (.int .i64 fr) rfl
  have h9 := h8.updK (x' := ((⟨⟨th, fi, la, sn, ho, rd, wt⟩, rr, fr, up⟩ : Sg), oz)) hk 8 (by decide) (.int .i64 up) rfl
  have h10 := h9.updK (x' := ((⟨⟨th, fi, la, sn, ho, rd, wt⟩, rr, fr, up⟩ : Sg), z)) hk 9 (by decide) (.int .i64 z) rfl
  exact h10
end Go.Proofs.Ytloiadhdkgkjkaa
/- The law OpaqueSights: its walk, behind the contracts of Sights, Check and Behind. -/
namespace Go.Proofs.Ytloiadhdkgkjkaa
open Go.RowKit
set_option maxHeartbeats 40000000
set_option linter.unusedVariables false
set_option linter.unusedSimpArgs false
theorem Sl.blw {α : Type} {e : TypeId} {sz : Nat} {enc : α → List Value} {w w' : World} {v : Value} {l : List α} (h : Sl e sz enc w v l) (hb : Below w.heap.size w w') : Sl e sz enc w' v l := h.keep fun k hk => hb.block k (h.lt k hk)
theorem Blk.blw {w w' : World} {b : Nat} {t : TypeId} {cs : Array Value} (h : Blk w b t cs) (hb : Below w.heap.size w w') : Blk w' b t cs := h.below hb h.lt
theorem Sl.encEq {w : World} {v : Value} {l l' : List (Sg × Int)} (h : Sl 40 10 encG w v l) (e : l.map encG = l'.map encG) : Sl 40 10 encG w v l' := by
  have h1 : l.length = l'.length := by have := congrArg List.length e; simpa using this
  have h2 : l.flatMap encG = l'.flatMap encG := by rw [List.flatMap_def, List.flatMap_def, e]
  unfold Sl at h ⊢
  rw [← h1, ← h2]
  exact h
theorem sigR_cnt (first : List Int) (l : List Ev) (hwf : ∀ e ∈ l, EvWf e) (hsz : l.length * 48 + 480 ≤ 140737488355328) : ((sigR first l).length + 20) * 80 ≤ 140737488355328 := by
  unfold sigR
  split
  · simp
  · rename_i h
    have h0 : (seeOdd first.length l).2 = 0 := by simpa using h
    obtain ⟨-, hodd, -, -⟩ := seeOdd_ok (seeOdd_zero h0)
    have hok := okTo_of_odd hodd l.length (Nat.le_refl _)
    rw [List.length_map, trsF_rn]
    have h1 := (inv_rn hwf (Nat.le_refl _) (fun j hj => hok j hj)).two
    have h2 := lives_le (rn l l.length)
    omega
set_option maxRecDepth 100000 in
theorem sights_law (SC : SightsC) (CK : CheckC) (BH : BehindC) {w : World} {Fv : Value} {A : Option Addr} {cp : Nat} {first : List Int} {l : List Ev} (hF : Lies w Fv first) (hL : LiesV w (.slice A l.length cp) l) (hwf : ∀ e ∈ l, EvWf e) (hsz : l.length * 48 + 480 ≤ 140737488355328)
    (hfl : first.length * 8 ≤ 140737488355328) (hfb : ∀ x ∈ first, 0 ≤ x ∧ x ≤ 18446744073709551615) (EQ : (sigA first l).map encG = (sigR first l).map encG) (EQC : chkA first l = chkR first l) :
    Calls Try.prog 3 #[Fv, .slice A l.length cp] w fun x w' => x = .returned (.bool true) ∧ Below w.heap.size w w' := by
  obtain ⟨Af, cf, rfl, -⟩ := (show ∃ A cp, Fv = .slice A first.length cp ∧ True from by obtain ⟨A, cp, h1, _⟩ := hF; exact ⟨A, cp, h1, trivial⟩)
  have hlen : (l.length : Int) ≤ 9223372036854775807 := by omega
  have hfi : (first.length : Int) ≤ 9223372036854775807 := by omega
  have hfl' : first.length ≤ 9223372036854775807 := by omega
  have C1 := Lib.hid (lent_b hL hsz)
  have hF8 := Lib.hid hfl
  replace hL := Lib.hid hL
  replace hF := Lib.hid hF
  obtain ⟨o1, ho1⟩ : ∃ o1, (seeOdd first.length l).1 = o1 := ⟨_, rfl⟩
  obtain ⟨o2, ho2⟩ : ∃ o2, (seeOdd first.length l).2 = o2 := ⟨_, rfl⟩
  obtain ⟨r, hr⟩ : ∃ r, chkR first l = r := ⟨_, rfl⟩
  have hSL : (sigA first l).length = (sigR first l).length := by have := congrArg List.length EQ; simpa using this
  have hRl := sigR_len first l
  go_enter Try.func3, Try.ntmps3
  go_wp2_with fail
  refine C1.out.mono ?_
  rintro _ w1 ⟨hb1, A1, c1, rfl, hc1, hM1, ho1'⟩
  have hF1 := hF.out.below hb1
  go_wp2_with (at_builtin; refine wpList_wcopy w1 rfl _ _ rfl _ first rfl rfl hF1 hF8.out ?_; intro A2 c2 w2 hc2 hW2 hb2 ho2')
  have hM2 := hM1.keep (w' := w2) fun k hk => hb2.block k (hM1.lt k hk)
  have hbw2 := hb1.trans (hb2.mono hb1.size)
  have OI : ∀ W, Below w2.heap.size w2 W → OpIn W (.slice A2 first.length c2) (.slice A1 l.length c1) first l := fun W hb =>
    ⟨(hW2.lies.below hb), (((hM2.lcut hc1).liesV hwf (by have := hL.out.len; omega)).below hb (Nat.le_refl _)), hwf, hsz, hfl', hfb⟩
  have S1 := Lib.hid (SC _ _ _ _ _ (OI w2 (Below.refl _ _)))
  rw [ho1, ho2] at S1
  clear C1 hF1
  go_wp2_with fail
  refine S1.out.mono ?_
  rintro _ w3 ⟨hb3, va, rfl, hSa, hoa⟩
  obtain ⟨Aa, ca, rfl, -⟩ := hSa.shape
  have hSa' := hSa.encEq EQ
  rw [hSL] at hSa' hoa
  rw [hSL]
  have hbu3 := hb3.alloc hb3.size (.cells #[.int .i64 o1, .int .i64 o2] 28)
  have O3 := Blk.new w3 28 #[.int .i64 o1, .int .i64 o2]
  have S2 := Lib.hid (SC _ _ _ _ _ (OI _ hbu3))
  rw [ho1, ho2] at S2
  go_wp2_with fail
  refine S2.out.mono ?_
  rintro _ w4 ⟨hb4, vb, rfl, hSb, hob⟩
  obtain ⟨Ab, cb, rfl, -⟩ := hSb.shape
  have hSb' := hSb.encEq EQ
  rw [hSL] at hSb' hob
  rw [hSL]
  have hb24 := hbu3.trans (hb4.mono hbu3.size)
  have hbu4 := hb24.alloc hb24.size (.cells #[.int .i64 o1, .int .i64 o2] 28)
  have O4 := Blk.new w4 28 #[.int .i64 o1, .int .i64 o2]
  have S3 := Lib.hid (CK _ _ _ _ _ (OI _ hbu4))
  rw [ho1, ho2, EQC, hr] at S3
  go_wp2_with fail
  refine S3.out.mono ?_
  rintro _ w5 ⟨hb5, rfl⟩
  have hb25 := hbu4.trans (hb5.mono hbu4.size)
  have hbu5 := hb25.alloc hb25.size (.cells #[.int .i64 o1, .int .i64 o2] 28)
  have O5 := Blk.new w5 28 #[.int .i64 o1, .int .i64 o2]
  have hw5 := hbw2.trans (hbu5.mono hbw2.size)
  have S4 := Lib.hid (rsights_b (hF.out.below hw5) (hL.out.below hw5 (Nat.le_refl _)) hwf hsz hfl')
  rw [ho1, ho2] at S4
  go_wp2_with fail
  refine S4.out.mono ?_
  rintro _ w6 ⟨hb6, vc, rfl, hSc, hoc⟩
  obtain ⟨Ac, cc, rfl, -⟩ := hSc.shape
  have hb26 := hbu5.trans (hb6.mono hbu5.size)
  have hbu6 := hb26.alloc hb26.size (.cells #[.int .i64 o1, .int .i64 o2] 28)
  have O6 := Blk.new w6 28 #[.int .i64 o1, .int .i64 o2]
  have hw6 := hbw2.trans (hbu6.mono hbw2.size)
  have S5 := Lib.hid (rcheck16_b (hF.out.below hw6) (hL.out.below hw6 (Nat.le_refl _)) hwf hsz hfl')
  rw [ho1, ho2, hr] at S5
  go_wp2_with fail
  refine S5.out.mono ?_
  rintro _ w7 ⟨hb7, rfl⟩
  have hb27 := hbu6.trans (hb7.mono hbu6.size)
  have hbu7 := hb27.alloc hb27.size (.cells #[.int .i64 o1, .int .i64 o2] 28)
  have O7 := Blk.new w7 28 #[.int .i64 o1, .int .i64 o2]
  have hs3 := hb3.alloc hb3.size (.cells #[.int .i64 o1, .int .i64 o2] 28)
  have hs4 := hb4.alloc hb4.size (.cells #[.int .i64 o1, .int .i64 o2] 28)
  have hs5 := hb5.alloc hb5.size (.cells #[.int .i64 o1, .int .i64 o2] 28)
  have hs6 := hb6.alloc hb6.size (.cells #[.int .i64 o1, .int .i64 o2] 28)
  have hs7 := hb7.alloc hb7.size (.cells #[.int .i64 o1, .int .i64 o2] 28)
  have hwE := hbw2.trans (hbu7.mono hbw2.size)
  have Q3 := (((O3.blw hs4).blw hs5).blw hs6).blw hs7
  have Q4 := ((O4.blw hs5).blw hs6).blw hs7
  have Q5 := (O5.blw hs6).blw hs7
  have Q6 := O6.blw hs7
  have Q7 := O7
  have Ta := Lib.hid (((((hSa'.alloc (.cells #[.int .i64 o1, .int .i64 o2] 28)).blw hs4).blw hs5).blw hs6).blw hs7)
  have Tb := Lib.hid ((((hSb'.alloc (.cells #[.int .i64 o1, .int .i64 o2] 28)).blw hs5).blw hs6).blw hs7)
  have Tc := Lib.hid ((hSc.alloc (.cells #[.int .i64 o1, .int .i64 o2] 28)).blw hs7)
  have TM := Lib.hid (hM2.blw hbu7)
  have TW := Lib.hid (hW2.keep fun k hk => hbu7.block k (hW2.lt k hk))
  have TF := hF.out.below hwE
  have TL := hL.out.below hwE (Nat.le_refl _)
  have nab : Hid (∀ q, own (.slice Aa (sigR first l).length ca) q → ¬ own (.slice Ab (sigR first l).length cb) q) := Lib.hid fun q h1 h2 => by
    have h3 := hSa'.lt q h1
    have h4 := hob q h2
    rw [World.size_alloc] at h4
    omega
  have nac : Hid (∀ q, own (.slice Aa (sigR first l).length ca) q → ¬ own (.slice Ac (sigR first l).length cc) q) := Lib.hid fun q h1 h2 => by
    have h3 := hSa'.lt q h1
    have h4 := hoc q h2
    have := hs4.size
    have := hs5.size
    have h5 : w3.heap.size ≤ (w3.alloc (.cells #[.int .i64 o1, .int .i64 o2] 28)).heap.size := by simp
    omega
  have hoa' : Hid (∀ q, own (.slice Aa (sigR first l).length ca) q → w2.heap.size ≤ q) := Lib.hid hoa
  have hw2 : Hid (w.heap.size ≤ w2.heap.size) := Lib.hid hbw2.size
  obtain ⟨E, hE⟩ : ∃ E, E = w7.alloc (.cells #[.int .i64 o1, .int .i64 o2] 28) := ⟨_, rfl⟩
  rw [← hE] at Q3 Q4 Q5 Q6 Q7 Ta Tb Tc TM TW TF TL hwE hbu7
  replace hbu7 := Lib.hid hbu7
  replace hwE := Lib.hid hwE
  clear hs3 hs4 hs5 hs6 hs7 O3 O4 O5 O6 O7 hSa hSa' hSb hSb' hSc hM1 hM2 hW2 hb1 hb2 hb3 hb4 hb5 hb6 hb7 hbu3 hb24 hbu4 hb25 hbu5 hb26 hbu6 hb27 hw5 hw6 hbw2 hoa hob hoc ho1' ho2' S1 S2 S3 S4 S5 OI
  have y30 := (Q3.cell 0).trans (show _ = some (.int .i64 o1) from rfl)
  have y31 := (Q3.cell 1).trans (show _ = some (.int .i64 o2) from rfl)
  have y40 := (Q4.cell 0).trans (show _ = some (.int .i64 o1) from rfl)
  have y41 := (Q4.cell 1).trans (show _ = some (.int .i64 o2) from rfl)
  have y50 := (Q5.cell 0).trans (show _ = some (.int .i64 o1) from rfl)
  have y51 := (Q5.cell 1).trans (show _ = some (.int .i64 o2) from rfl)
  have y60 := (Q6.cell 0).trans (show _ = some (.int .i64 o1) from rfl)
  have y61 := (Q6.cell 1).trans (show _ = some (.int .i64 o2) from rfl)
  have y70 := (Q7.cell 0).trans (show _ = some (.int .i64 o1) from rfl)
  have y71 := (Q7.cell 1).trans (show _ = some (.int .i64 o2) from rfl)
  have hne := fun W => odd_neq o1 o2 o1 o2 W
  simp only [decide_true, Bool.and_self, Bool.not_true] at hne
  have CE := Lib.hid (rsameS_b Ta.out Tc.out (by omega))
  have CL := Lib.hid (fun n => left_b (TM.out.drewN n) hc1 (TL.drewN n) hwf hsz (TW.out.lies.drewN n) (TF.drewN n) hfi)
  have KN := Lib.hid (known_b CK BH)
  replace TL := Lib.hid TL
  replace TF := Lib.hid TF
  have hRi : ((sigR first l).length : Int) ≤ 9223372036854775807 := by omega
  have hR80 : Hid (((sigR first l).length + 20) * 80 ≤ 140737488355328) := Lib.hid (sigR_cnt first l hwf hsz)
  replace hr := Lib.hid hr
  replace ho1 := Lib.hid ho1
  replace ho2 := Lib.hid ho2
  replace hRl := Lib.hid hRl
  clear EQ EQC hSL Q3 Q4 Q5 Q6 Q7
  generalize sigR first l = R at *
  subst hE
  go_wp2_with fail
  refine CE.out.mono ?_
  rintro _ _ ⟨rfl, n1, rfl⟩
  go_wp2_with fail
  refine (CL.out _).mono ?_
  rintro _ _ ⟨rfl, n2, rfl⟩
  go_wp2_with fail
  obtain ⟨E, hE⟩ : ∃ E, E = ((w7.alloc (.cells #[.int .i64 o1, .int .i64 o2] 28)).drewN (n1 + n2)) := ⟨_, rfl⟩
  have Va := Lib.hid (Ta.out.drewN (n1 + n2))
  have Vb := Lib.hid (Tb.out.drewN (n1 + n2))
  have Vc := Lib.hid (Tc.out.drewN (n1 + n2))
  have VM := Lib.hid (TM.out.drewN (n1 + n2))
  have VW := Lib.hid (TW.out.drewN (n1 + n2))
  have VF := Lib.hid (TF.out.drewN (n1 + n2))
  have VL := Lib.hid (TL.out.drewN (n1 + n2))
  have hbE := Lib.hid (below_drewNs hwE.out (n1 + n2))
  rw [← hE] at Va Vb Vc VM VW VF VL hbE ⊢
  replace hE := Lib.hid hE
  clear Ta Tb Tc TM TW TF TL hwE hbu7 CE CL y30 y31 y40 y41 y50 y51 y60 y61 y70 y71 hne
  have hS0 := Va
  go_loopw [17] (fun c17 wr => ∃ (k : Nat) (L : List (Sg × Int)), k ≤ R.length ∧ L.length = R.length ∧ c17 = .int .i64 (k : Int) ∧ Hid (Sl 40 10 encG wr (.slice Aa R.length ca) L) ∧ Hid (Fr (own (.slice Aa R.length ca)) E (own (.slice Aa R.length ca)) wr)) (fun c17 _ => R.length - (intOf c17).toNat)
  case atStart => exact ⟨0, R, Nat.zero_le _, rfl, rfl, Va, Lib.hid (Fr.refl _ _)⟩
  case round =>
    obtain ⟨k, L, hk, hLl, rfl, hS, hFr⟩ := hrel
    by_cases hlt : k < R.length
    · have b1 : (k : Int) < R.length := by omega
      have w1 := IntWalk.i64_in (n := (k : Int) + 1) (by omega)
      have hkL : k < L.length := by omega
      obtain ⟨g, o, rfl, hg, hc⟩ := hS.out.cell encG_len (by decide) hkL
      obtain ⟨rr, hS2⟩ := Sl.put10 hS.out hkL 0 0 0 (-9) 0 0 0 0 0 0
      have hS3 := Lib.hid hS2
      have c := fun q h => hc k hkL q h
      generalize L[k] = x at *
      obtain ⟨⟨⟨a0, a1, a2, a3, a4, a5, a6⟩, rr2, a7, a8⟩, a9⟩ := x
      have d0 := (c 0 (by decide)).1
      have z0 := (c 0 (by decide)).2
      have d1 := (c 1 (by decide)).1
      have z1 := (c 1 (by decide)).2
      have d2 := (c 2 (by decide)).1
      have z2 := (c 2 (by decide)).2
      have d3 := (c 3 (by decide)).1
      have z3 := (c 3 (by decide)).2
      have d4 := (c 4 (by decide)).1
      have z4 := (c 4 (by decide)).2
      have d5 := (c 5 (by decide)).1
      have z5 := (c 5 (by decide)).2
      have d6 := (c 6 (by decide)).1
      have z6 := (c 6 (by decide)).2
      have d7 := (c 7 (by decide)).1
      have z7 := (c 7 (by decide)).2
      have d8 := (c 8 (by decide)).1
      have z8 := (c 8 (by decide)).2
      have d9 := (c 9 (by decide)).1
      have z9 := (c 9 (by decide)).2
      simp only [encG, List.getElem?_cons_zero, List.getElem?_cons_succ, Nat.add_zero] at d0 d1 d2 d3 d4 d5 d6 d7 d8 d9
      simp only [Nat.add_zero] at z0
      simp only [← Nat.add_assoc] at d1 d2 d3 d4 d5 d6 d7 d8 d9 z1 z2 z3 z4 z5 z6 z7 z8 z9
      have hgo : own (.slice (some ⟨g, o, none⟩) R.length ca) g := by simp [own, Value.ownBlock]
      have hF3 := Lib.hid ((((((((((hFr.out.set (p := ⟨g, o + k * 10, none⟩) (.inl hgo) (.int .i64 0)).set (p := ⟨g, o + k * 10 + 1, none⟩) (.inl hgo) (.int .i64 0)).set (p := ⟨g, o + k * 10 + 2, none⟩) (.inl hgo) (.int .i64 0)).set (p := ⟨g, o + k * 10 + 3, none⟩) (.inl hgo) (.int .u64 0)).set (p := ⟨g, o + k * 10 + 4, none⟩) (.inl hgo) (.int .i64 0)).set (p := ⟨g, o + k * 10 + 5, none⟩) (.inl hgo) (.int .i64 0)).set (p := ⟨g, o + k * 10 + 6, none⟩) (.inl hgo) (.int .i64 0)).set (p := ⟨g, o + k * 10 + 7, none⟩) (.inl hgo) (.int .i64 0)).set (p := ⟨g, o + k * 10 + 8, none⟩) (.inl hgo) (.int .i64 0)).set (p := ⟨g, o + k * 10 + 9, none⟩) (.inl hgo) (.int .i64 (-9)))
      replace hgo := Lib.hid hgo
      clear c hc hS2 hS hFr
      go_wp2
      go_roundw
      case rel => exact ⟨k + 1, _, hlt, by rw [List.length_set]; exact hLl, by go_num, hS3, hF3⟩
      case measure => simp [intOf]; omega
    · have hk2 : k = R.length := by omega
      subst hk2
      clear Va
      replace hLl := Lib.hid hLl
      obtain ⟨E2, hE2⟩ : ∃ E2 : World, E2 = wr := ⟨_, rfl⟩
      subst hE2
      go_wp2
      go_loopw [7, 18] (fun c7 c18 wr => ∃ (k : Nat) (L' : List (Sg × Int)), k ≤ 20 ∧ L'.length = R.length + k ∧ c18 = .int .i64 (k : Int) ∧ (∃ A7 cap7, c7 = .slice A7 (R.length + k) cap7) ∧ Hid (Sl 40 10 encG wr c7 L') ∧ Hid (Fr (own (.slice Aa R.length ca)) E (own c7) wr)) (fun _ c18 _ => 20 - (intOf c18).toNat)
      case atStart =>
        refine ⟨0, L, Nat.zero_le _, hLl.out, ?_, ?_, ?_, ?_⟩
        · rfl
        · exact ⟨Aa, ca, by simp⟩
        · exact hS
        · exact hFr
      case round =>
        obtain ⟨k, L', hk, hLl', rfl, ⟨A7, cap7, rfl⟩, hS, hFr⟩ := hrel
        by_cases hlt : k < 20
        · have b1 : (k : Int) < 20 := by omega
          have w1 := IntWalk.i64_in (n := (k : Int) + 1) (by omega)
          have hsz7 : Hid ((R.length + k + 1) * 80 ≤ 140737488355328) := Lib.hid (Nat.le_trans (Nat.mul_le_mul_right 80 (Nat.add_le_add_left hlt R.length)) hR80.out)
          have FIN : Hid (∀ A8 cap8 w8 y, Sl 40 10 encG w8 (.slice A8 (R.length + k + 1) cap8) (L' ++ [y]) → Fr (own (.slice A7 (R.length + k) cap7)) wr (own (.slice A8 (R.length + k + 1) cap8)) w8 → Fr (own (.slice Aa R.length ca)) E (own (.slice A8 (R.length + k + 1) cap8)) w8) := Lib.hid fun A8 cap8 w8 y _ hF8 => hFr.out.trans hF8
          go_wp2_with (at_builtin; refine wpList_gON wr rfl (.tmp 99) (.tmp 101) rfl (.slice A7 (R.length + k) cap7) L' ((⟨⟨0, 0, 0, 0, 0, 0, 0⟩, [], 0, 0⟩ : Sg), 0) (R.length + k) hLl' rfl hS.out rfl hsz7.out ?_; intro A8 cap8 w8 hS8 hF8; have FN := Lib.hid (FIN.out A8 cap8 w8 _ hS8 hF8); replace hS8 := Lib.hid hS8; clear hF8)
          go_roundw
          case rel => exact ⟨k + 1, _, hlt, by rw [List.length_append]; simp; omega, by go_num, ⟨A8, cap8, rfl⟩, hS8, FN⟩
          case measure => simp [intOf]; omega
        · have hk2 : k = 20 := by omega
          subst hk2
          have g20 : (20 : Int) ≤ ((R.length + 20 : Nat) : Int) := by omega
          have hkb : ∀ q, q < E.heap.size → ¬ own (.slice Aa R.length ca) q → wr.heap[q]? = E.heap[q]? := hFr.out.block
          have Zb := Vb.out.keep (w' := wr) fun q hq => hkb q (Vb.out.lt q hq) (fun h => nab.out q h hq)
          have Zc := Vc.out.keep (w' := wr) fun q hq => hkb q (Vc.out.lt q hq) (fun h => nac.out q h hq)
          have ZM := VM.out.keep (w' := wr) fun q hq => hkb q (VM.out.lt q hq) (fun h => by obtain ⟨cs, hb⟩ := VM.out.ofBlk hq; exact Sl.ne_ hS0.out hb (by decide) h)
          have ZW := VW.out.keep (w' := wr) fun q hq => hkb q (VW.out.lt q hq) (fun h => by obtain ⟨cs, hb⟩ := hS0.out.ofBlk h; exact Sl.ne_ (wl_sl VW.out) hb (by decide) hq)
          have hbZ : Below w.heap.size w wr := hbE.out.trans (hFr.out.below (fun q hq => Nat.le_trans hw2.out (hoa'.out q hq)) hbE.out.size)
          have ZF := hF.out.below hbZ
          have ZL := hL.out.below hbZ (Nat.le_refl _)
          have CE := Lib.hid (rsameS_b Zb Zc hRi)
          have CL := Lib.hid (fun n => left_b (ZM.drewN n) hc1 (ZL.drewN n) hwf hsz (ZW.lies.drewN n) (ZF.drewN n) hfi)
          replace hbZ := Lib.hid hbZ
          clear Zb Zc ZM ZW ZF ZL hkb hS hFr
          go_wp2_with fail
          refine CE.out.mono ?_
          rintro _ _ ⟨rfl, n3, rfl⟩
          go_wp2_with fail
          refine (CL.out _).mono ?_
          rintro _ _ ⟨rfl, n4, rfl⟩
          go_wp2_with fail
          refine (KN.out _).mono ?_
          rintro _ w9 ⟨rfl, hb9⟩
          have hbF := Lib.hid (hbZ.out.trans (Below.mono (show Below wr.heap.size wr w9 from ⟨hb9.os, hb9.tape, hb9.output, hb9.size, hb9.block⟩) hbZ.out.size))
          clear hb9
          go_wp2
          go_ret
          exact ⟨rfl, hbF.out⟩
end Go.Proofs.Ytloiadhdkgkjkaa
