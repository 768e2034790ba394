/- Plain law of chapter 16: what see gathers event by event is the document's: commits, cells. -/
import Derived.Test.YtloiadhdkgkjkaaPSg1
import Derived.Test.YtloiadhdkgkjkaaPSg9
import Derived.Test.YtloiadhdkgkjkaaPSg10
namespace Go.Proofs.Ytloiadhdkgkjkaa
set_option maxHeartbeats 4000000
set_option linter.unusedVariables false
set_option linter.unusedSimpArgs false
theorem atW_top {l : List (Nat × Int)} (hl : l ≠ []) {n m : Nat} (h : ∀ p ∈ l, p.1 ≤ n) (hnm : n ≤ m) : atW l m = atW l n := by
  have e := List.dropLast_concat_getLast hl
  have hp := h _ (List.getLast_mem hl)
  generalize l.getLast hl = p at *
  generalize l.dropLast = d at *
  subst e
  cases d with
  | nil => rfl
  | cons x d => rw [atW_snoc (by simp), atW_snoc (by simp), if_pos (by omega), if_pos hp]
theorem vTl_same (v : Vw) (i : Nat) (e : Ev) : (vTl v i e).now = v.now ∧ (vTl v i e).cells = v.cells ∧ (vTl v i e).commits = v.commits ∧ (vTl v i e).next = v.next := by
  unfold vTl
  dsimp only
  split <;> exact ⟨rfl, rfl, rfl, rfl⟩
structure VR (first : List Int) (T : List Tr) (l : List Ev) (k : Nat) : Prop where
  cm : (vn first T l k).commits = (wrS l k).2.length
  lkB : ∀ t, t < 8 → ((wrS l k).1 t = true ↔ ((rn l k).th t).how = 2)
  lkA : ∀ t, t < 8 → liveT ((rn l k).th t) → (((vn first T l k).now t).lk = true ↔ ((rn l k).th t).how = 2)
  ws : ∀ t, t < 8 → liveT ((rn l k).th t) → ((vn first T l k).now t).ws = ((rn l k).th t).ws
  bg : ∀ t : Nat, t < 8 → liveT ((rn l k).th t) → begF l t k < k ∧ ((rn l k).th t).ws = wsF l t (begF l t k) (k - begF l t k)
  ce : ∀ n, n ≤ (vn first T l k).commits → ∀ a, a < first.length → atW ((vn first T l k).cells a) n = (stS first l (wrS l k).2 n).1.getD a 0
theorem VR.start (first : List Int) (T : List Tr) (l : List Ev) : VR first T l 0 where
  cm := rfl
  lkB := fun t _ => by simp [wrS, rn, St.zero]
  lkA := fun t _ h => by simp [rn, St.zero, liveT] at h
  ws := fun t _ h => by simp [rn, St.zero, liveT] at h
  bg := fun t _ h => by simp [rn, St.zero, liveT] at h
  ce := fun n hn a ha => by
    have hn0 : n = 0 := by simpa [vn, vw0] using hn
    subst hn0
    show atW (vw0 first |>.cells a) 0 = first.getD a 0
    simp [vw0, atW, dn]
theorem begF_succ (l : List Ev) (t : Int) (k : Nat) : begF l t (k + 1) = if (evAt l k).th = t ∧ (evAt l k).kd = 1 then k else begF l t k := rfl
theorem wsF_succ (l : List Ev) (t : Int) (b n : Nat) : wsF l t b (n + 1) = if (evAt l (b + n)).th = t ∧ (evAt l (b + n)).kd = 3 then wsF l t b n ++ [((evAt l (b + n)).ad, (evAt l (b + n)).wd)] else wsF l t b n := rfl
theorem wrS_succ (l : List Ev) (n : Nat) : wrS l (n + 1) = if (evAt l n).kd = 5 then (upd (wrS l n).1 (evAt l n).th.toNat true, (wrS l n).2) else if (evAt l n).kd = 6 ∧ (wrS l n).1 (evAt l n).th.toNat = true then (upd (wrS l n).1 (evAt l n).th.toNat false, (wrS l n).2 ++ [n]) else wrS l n := rfl
theorem stS_succ (first : List Int) (l : List Ev) (W : List Nat) (j : Nat) : (stS first l W (j + 1)).1 = apF l (evAt l (W.getD j 0)).th (begF l (evAt l (W.getD j 0)).th (W.getD j 0 + 1)) (stS first l W j).1 (W.getD j 0 - begF l (evAt l (W.getD j 0)).th (W.getD j 0 + 1)) := rfl
theorem vEv_com (T : List Tr) (v : Vw) (e : Ev) : (vEv T v e).commits = if e.kd = 6 ∧ (v.now e.th.toNat).lk = true then v.commits + 1 else v.commits := by
  unfold vEv
  dsimp only
  by_cases h1 : e.kd = 1
  · rw [if_pos h1, if_neg (by omega)]
  by_cases h2 : e.kd = 2
  · rw [if_neg h1, if_pos h2, if_neg (show ¬ (e.kd = 6 ∧ (v.now e.th.toNat).lk = true) from fun h => by have := h.1; omega)]; split <;> rfl
  by_cases h3 : e.kd = 3
  · rw [if_neg h1, if_neg h2, if_pos h3, if_neg (by omega)]
  by_cases h5 : e.kd = 5
  · rw [if_neg h1, if_neg h2, if_neg h3, if_pos h5, if_neg (by omega)]
  rw [if_neg h1, if_neg h2, if_neg h3, if_neg h5]
  split <;> rfl
theorem vEv_cells (T : List Tr) (v : Vw) (e : Ev) : (vEv T v e).cells = if e.kd = 6 ∧ (v.now e.th.toNat).lk = true then putAll v.cells (v.commits + 1) (v.now e.th.toNat).ws else v.cells := by
  unfold vEv
  dsimp only
  by_cases h1 : e.kd = 1
  · rw [if_pos h1, if_neg (by omega)]
  by_cases h2 : e.kd = 2
  · rw [if_neg h1, if_pos h2, if_neg (show ¬ (e.kd = 6 ∧ (v.now e.th.toNat).lk = true) from fun h => by have := h.1; omega)]; split <;> rfl
  by_cases h3 : e.kd = 3
  · rw [if_neg h1, if_neg h2, if_pos h3, if_neg (by omega)]
  by_cases h5 : e.kd = 5
  · rw [if_neg h1, if_neg h2, if_neg h3, if_pos h5, if_neg (by omega)]
  rw [if_neg h1, if_neg h2, if_neg h3, if_neg h5]
  split <;> rfl
theorem vEv_now (T : List Tr) (v : Vw) (e : Ev) : (vEv T v e).now e.th.toNat = if e.kd = 1 then ⟨v.next, false, []⟩ else if e.kd = 3 then ⟨(v.now e.th.toNat).tri, (v.now e.th.toNat).lk, (v.now e.th.toNat).ws ++ [(e.ad, e.wd)]⟩ else if e.kd = 5 then ⟨(v.now e.th.toNat).tri, true, (v.now e.th.toNat).ws⟩ else v.now e.th.toNat := by
  unfold vEv
  dsimp only
  by_cases h1 : e.kd = 1
  · rw [if_pos h1, if_pos h1]; exact upd_at _ _ _
  by_cases h2 : e.kd = 2
  · rw [if_neg h1, if_pos h2, if_neg h1]
    rw [if_neg (show ¬ e.kd = 3 by omega), if_neg (show ¬ e.kd = 5 by omega)]
    split <;> rfl
  by_cases h3 : e.kd = 3
  · rw [if_neg h1, if_neg h2, if_pos h3, if_neg h1, if_pos h3]; exact upd_at _ _ _
  by_cases h5 : e.kd = 5
  · rw [if_neg h1, if_neg h2, if_neg h3, if_pos h5, if_neg h1, if_neg h3, if_pos h5]; exact upd_at _ _ _
  rw [if_neg h1, if_neg h2, if_neg h3, if_neg h5, if_neg h1, if_neg h3, if_neg h5]
  split <;> rfl
theorem VR.step {first : List Int} {T : List Tr} {l : List Ev} (hwf : ∀ e ∈ l, EvWf e) (hok : okTo l l.length) (hp : idxE plainE l < 0) (hf : idxE (farE first.length) l < 0) {k : Nat} (hk : k < l.length) (h : VR first T l k) : VR first T l (k + 1) := by
  have hVI := VI.vn (T := T) hwf hok hp hf (show k ≤ l.length by omega)
  have hVJ := VJ.vn (T := T) (first := first) hwf hf (show k ≤ l.length by omega)
  have hI := inv_rn hwf (show k ≤ l.length by omega) (fun j hj => hok j (by omega))
  have hw := hok k hk
  obtain ⟨hfm, htb, h9, -, -, -⟩ := wrong_zero hw
  obtain ⟨⟨h0, h8⟩, k1, k12⟩ := fmd_bd hfm
  obtain ⟨cm, lkB, lkA, ws, bg, ce⟩ := h
  have hv : vn first T l (k + 1) = vTl (vEv T (vn first T l k) (evAt l k)) k (evAt l k) := rfl
  have hs : rn l (k + 1) = take (rn l k) k (evAt l k) := rfl
  have hW := wrS_succ l k
  have hst := stS_succ first l ((wrS l k).2 ++ [k]) (wrS l k).2.length
  have hpre := fun j hj => stS_pre first l (wrS l k).2 k j hj
  have hgk : ((wrS l k).2 ++ [k]).getD (wrS l k).2.length 0 = k := by rw [List.getD_eq_getElem?_getD, List.getElem?_append_right (Nat.le_refl _)]; simp
  rw [hgk] at hst
  have hbs := fun t : Int => begF_succ l t k
  have hws := fun (t : Int) (b : Nat) (hb : b ≤ k) => (show wsF l t b (k + 1 - b) = if (evAt l k).th = t ∧ (evAt l k).kd = 3 then wsF l t b (k - b) ++ [((evAt l k).ad, (evAt l k).wd)] else wsF l t b (k - b) from by
    have := wsF_succ l t b (k - b)
    rw [show b + (k - b) = k by omega] at this
    rw [show k + 1 - b = k - b + 1 by omega]
    exact this)
  generalize evAt l k = e at *
  obtain ⟨th, kd, ad, wd, ow, er⟩ := e
  dsimp only at *
  obtain ⟨t, rfl⟩ := Int.eq_ofNat_of_zero_le h0
  obtain ⟨c, rfl⟩ := Int.eq_ofNat_of_zero_le (show 0 ≤ kd by omega)
  have ht : t < 8 := by omega
  have hc : c < 13 := by omega
  rw [Int.toNat_natCast] at htb hW
  obtain ⟨tn, tcl, tcm, -⟩ := vTl_same (vEv T (vn first T l k) ⟨t, c, ad, wd, ow, er⟩) k ⟨t, c, ad, wd, ow, er⟩
  rw [← hv] at tn tcl tcm
  have hth := fun j => take_th (rn l k) k ⟨t, c, ad, wd, ow, er⟩ j
  simp only [Int.toNat_natCast] at hth
  rw [← hs] at hth
  have e1 : ((c : Int) = 1) = (c = 1) := by simp; omega
  have e2 : ((c : Int) = 2) = (c = 2) := by simp; omega
  have e3 : ((c : Int) = 3) = (c = 3) := by simp; omega
  have e5 : ((c : Int) = 5) = (c = 5) := by simp; omega
  have e6 : ((c : Int) = 6) = (c = 6) := by simp; omega
  simp only [e1] at hbs
  simp only [e3] at hws
  simp only [e5, e6] at hW
  have hev : vEv T (vn first T l k) ⟨t, c, ad, wd, ow, er⟩ = vEv T (vn first T l k) ⟨t, c, ad, wd, ow, er⟩ := rfl
  have hnj : ∀ j, j ≠ t → (vEv T (vn first T l k) ⟨t, c, ad, wd, ow, er⟩).now j = (vn first T l k).now j := fun j hj => by
    unfold vEv
    dsimp only
    rw [Int.toNat_natCast]
    repeat' split
    all_goals first | rfl | exact upd_ne _ _ hj
  have hcs := tb_ok (hI.bd.how t) hc htb
  have vc := vEv_com T (vn first T l k) ⟨t, c, ad, wd, ow, er⟩
  have vce := vEv_cells T (vn first T l k) ⟨t, c, ad, wd, ow, er⟩
  have vno := vEv_now T (vn first T l k) ⟨t, c, ad, wd, ow, er⟩
  dsimp only at vc vce vno
  rw [Int.toNat_natCast] at vc vce vno
  simp only [e1, e3, e5, e6] at vc vce vno
  -- a writing commit
  have q1 : (c = 6 ∧ ((vn first T l k).now t).lk = true) = (c = 6 ∧ ((rn l k).th t).how = 2) := propext (by
    constructor
    · rintro ⟨h6, h⟩
      refine ⟨h6, (lkA t ht ?_).1 h⟩
      rcases hcs with ⟨h1, h2⟩ | ⟨h1, _⟩ | ⟨h1, _⟩
      · omega
      · exact .inl h1
      · exact .inr h1
    · rintro ⟨h6, h⟩
      exact ⟨h6, (lkA t ht (.inr h)).2 h⟩)
  have q2 : (c = 6 ∧ (wrS l k).1 t = true) = (c = 6 ∧ ((rn l k).th t).how = 2) := propext (and_congr Iff.rfl (lkB t ht))
  simp only [q1] at vc vce
  simp only [q2] at hW
  have hown := hth t
  rw [if_pos rfl] at hown
  have hoth : ∀ j, j ≠ t → (rn l (k + 1)).th j = (rn l k).th j := fun j hj => by rw [hth j, if_neg hj]
  have hhow : ((rn l (k + 1)).th t).how = tb ((rn l k).th t).how (c : Int) - 1 := by rw [hown]; rfl
  have hwst : ((rn l (k + 1)).th t).ws = if c = 1 then [] else if c = 3 then ((rn l k).th t).ws ++ [(ad, wd)] else ((rn l k).th t).ws := by rw [hown]; simp only [tkT, e1, e3]
  have hlv1 : c ≠ 1 → liveT ((rn l (k + 1)).th t) → liveT ((rn l k).th t) := fun hc1 hl => by
    unfold liveT at hl ⊢
    rw [hhow] at hl
    rcases hcs with ⟨h1, h2⟩ | ⟨h1, _⟩ | ⟨h1, _⟩
    · rw [h1] at hl
      rcases h2 with rfl | rfl | rfl | rfl | rfl <;> simp [tb] at hl hc1
    · exact .inl h1
    · exact .inr h1
  constructor
  · rw [tcm, vc, hW]
    by_cases h5 : c = 5
    · rw [if_pos h5, if_neg (by omega)]; exact cm
    · rw [if_neg h5]
      split
      · rw [List.length_append, cm]; rfl
      · exact cm
  · intro j hj
    by_cases hjt : j = t
    · subst hjt
      rw [hW, hhow]
      have hb := lkB j ht
      rcases hcs with ⟨h1, h2⟩ | ⟨h1, h2⟩ | ⟨h1, h2⟩
      · rw [h1] at hb ⊢
        rcases h2 with rfl | rfl | rfl | rfl | rfl <;> simp [tb] at hb ⊢ <;> exact hb
      · rw [h1] at hb ⊢
        rcases h2 with rfl | rfl | rfl | rfl | rfl | rfl | rfl | rfl <;> simp [tb, upd_at] at hb ⊢ <;> exact hb
      · subst h2
        rw [h1] at hb ⊢
        simp [tb, upd_at]
    · rw [hoth j hjt, hW, ← lkB j hj]
      repeat' split
      all_goals first | rfl | (dsimp only; rw [upd_ne _ _ hjt])
  · intro j hj hl
    by_cases hjt : j = t
    · subst hjt
      rw [tn, vno, hhow]
      by_cases c1 : c = 1
      · subst c1
        rw [if_pos rfl]
        rcases hcs with ⟨h1, h2⟩ | ⟨h1, h2⟩ | ⟨h1, h2⟩
        · rw [h1]; simp [tb]
        · omega
        · omega
      · have hla := lkA j ht (hlv1 c1 hl)
        rw [if_neg c1]
        unfold liveT at hl
        rw [hhow] at hl
        rcases hcs with ⟨h1, h2⟩ | ⟨h1, h2⟩ | ⟨h1, h2⟩
        · rw [h1] at hl
          rcases h2 with rfl | rfl | rfl | rfl | rfl <;> simp [tb] at hl c1
        · rw [h1] at hla ⊢
          rcases h2 with rfl | rfl | rfl | rfl | rfl | rfl | rfl | rfl <;> simp [tb] at hla ⊢ <;> exact hla
        · subst h2
          simp [h1, tb] at hl
    · rw [hoth j hjt] at hl ⊢
      rw [tn, hnj j hjt]
      exact lkA j hj hl
  · intro j hj hl
    by_cases hjt : j = t
    · subst hjt
      rw [tn, vno, hwst]
      by_cases c1 : c = 1
      · rw [if_pos c1, if_pos c1]
      · rw [if_neg c1, if_neg c1]
        have hw1 := ws j ht (hlv1 c1 hl)
        by_cases c3 : c = 3
        · rw [if_pos c3, if_pos c3, ← hw1]
        · rw [if_neg c3, if_neg c3, ← hw1]
          split <;> rfl
    · rw [hoth j hjt] at hl ⊢
      rw [tn, hnj j hjt]
      exact ws j hj hl
  · intro j hj hl
    by_cases hjt : j = t
    · subst hjt
      rw [hbs, hwst]
      by_cases c1 : c = 1
      · subst c1
        rw [if_pos ⟨rfl, rfl⟩, if_pos rfl]
        refine ⟨Nat.lt_succ_self _, ?_⟩
        have := hws j k (Nat.le_refl _)
        rw [this, if_neg (by omega), Nat.sub_self]
        rfl
      · rw [if_neg (fun h => c1 h.2), if_neg c1]
        obtain ⟨b1, b2⟩ := bg j ht (hlv1 c1 hl)
        refine ⟨by omega, ?_⟩
        rw [hws _ _ (by omega), ← b2]
        by_cases c3 : c = 3
        · rw [if_pos c3, if_pos ⟨rfl, c3⟩]
        · rw [if_neg c3, if_neg (fun h => c3 h.2)]
    · have hjt' : ¬ (t : Int) = (j : Int) := fun h => hjt (by omega)
      rw [hoth j hjt] at hl ⊢
      rw [hbs, if_neg (fun h => hjt' h.1)]
      obtain ⟨b1, b2⟩ := bg j hj hl
      refine ⟨by omega, ?_⟩
      rw [hws _ _ (by omega), if_neg (fun h => hjt' h.1)]
      exact b2
  · intro n hn a ha
    rw [tcm, vc] at hn
    rw [tcl, vce, hW]
    by_cases h5 : c = 5
    · rw [if_pos h5, if_neg (by omega)]
      rw [if_neg (by omega)] at hn
      exact ce n hn a ha
    · rw [if_neg h5]
      by_cases hcm : c = 6 ∧ ((rn l k).th t).how = 2
      · rw [if_pos hcm] at hn
        rw [if_pos hcm, if_pos hcm]
        dsimp only
        have hLv : liveT ((rn l k).th t) := .inr hcm.2
        have hLm : ∀ a, a < first.length → Lm ((vn first T l k).cells a) ((vn first T l k).commits + 1) := fun a ha => ⟨(hVI.inc a ha).ne, (hVJ.z a ha).2, fun p hp => Nat.le_succ_of_le ((hVI.inc a ha).le p hp)⟩
        have hnow := (stS_len first l (wrS l k).2 (wrS l k).2.length).1
        have P := putAll_at (m := (vn first T l k).commits + 1) (Nat.succ_pos _) (ws := ((vn first T l k).now t).ws) (c := (vn first T l k).cells) hnow (hVI.ws t ht).1 hLm (fun a ha => by
          rw [atW_top (hVI.inc a ha).ne (hVI.inc a ha).le (Nat.le_succ _), ce _ (Nat.le_refl _) a ha, cm])
        by_cases hnm : n ≤ (vn first T l k).commits
        · rw [P.2.2 a ha n (by omega), hpre n (by rw [← cm]; exact hnm)]
          exact ce n hnm a ha
        · obtain rfl : n = (vn first T l k).commits + 1 := by omega
          rw [P.2.1 a ha]
          have hcm' := cm
          rw [hcm', hst, hpre _ (Nat.le_refl _), apF_apW, ws t ht hLv, (bg t ht hLv).2, hbs, if_neg (by omega)]
      · rw [if_neg hcm] at hn
        rw [if_neg hcm, if_neg hcm]
        exact ce n hn a ha
theorem VR.all {first : List Int} {T : List Tr} {l : List Ev} (hwf : ∀ e ∈ l, EvWf e) (hok : okTo l l.length) (hp : idxE plainE l < 0) (hf : idxE (farE first.length) l < 0) : ∀ k, k ≤ l.length → VR first T l k
  | 0, _ => VR.start first T l
  | k + 1, hk => (VR.all hwf hok hp hf k (by omega)).step hwf hok hp hf (by omega)
end Go.Proofs.Ytloiadhdkgkjkaa
/- Plain law of chapter 16: what see gathers of each attempt is the document's. -/
namespace Go.Proofs.Ytloiadhdkgkjkaa
set_option maxHeartbeats 4000000
set_option linter.unusedVariables false
set_option linter.unusedSimpArgs false
theorem vEv_sights (T : List Tr) (v : Vw) (e : Ev) : (vEv T v e).sights = if e.kd = 1 then v.sights ++ [⟨T.getD v.next Tr.zero, [], v.commits, 0⟩] else if e.kd = 2 ∧ e.ow = false then v.sights.set (v.now e.th.toNat).tri ⟨(v.sights.getD (v.now e.th.toNat).tri Sg.zero).tr, (v.sights.getD (v.now e.th.toNat).tri Sg.zero).reads ++ [(e.ad, e.wd)], (v.sights.getD (v.now e.th.toNat).tri Sg.zero).fr, (v.sights.getD (v.now e.th.toNat).tri Sg.zero).upto⟩ else v.sights := by
  unfold vEv
  dsimp only
  by_cases h1 : e.kd = 1
  · rw [if_pos h1, if_pos h1]
  by_cases h2 : e.kd = 2
  · rw [if_neg h1, if_pos h2, if_neg h1]
    cases e.ow
    · rw [if_neg (by decide), if_pos ⟨h2, rfl⟩]
    · rw [if_pos rfl, if_neg (fun h => by cases h.2)]
  rw [if_neg h1, if_neg h2, if_neg h1, if_neg (show ¬ (e.kd = 2 ∧ e.ow = false) from fun h => h2 h.1)]
  repeat' split
  all_goals rfl
theorem vEv_next (T : List Tr) (v : Vw) (e : Ev) : (vEv T v e).next = if e.kd = 1 then v.next + 1 else v.next := by
  unfold vEv
  dsimp only
  by_cases h1 : e.kd = 1
  · rw [if_pos h1, if_pos h1]
  rw [if_neg h1, if_neg h1]
  repeat' split
  all_goals rfl
theorem tailB_of {v : Vw} {i : Nat} {e : Ev} {q : Nat} {x : Sg} (hn : 0 < v.next) (hq : (v.now e.th.toNat).tri = q) (hx : v.sights[q]? = some x) (h1 : x.tr.th = e.th) (h2 : x.tr.last = i) : tailB v i e = true := by
  unfold tailB
  have hlt : q < v.sights.length := (List.getElem?_eq_some_iff.1 hx).1
  rw [hq, List.getD_eq_getElem?_getD, hx]
  simp [hn, hlt, h1, h2]
theorem tailB_last {v : Vw} {i : Nat} {e : Ev} {q : Nat} {x : Sg} (h : tailB v i e = true) (hq : (v.now e.th.toNat).tri = q) (hx : v.sights[q]? = some x) : x.tr.last = i := by
  unfold tailB at h
  rw [hq, List.getD_eq_getElem?_getD, hx] at h
  simp at h
  exact h.2.2.2
theorem vTl_get (v : Vw) (i : Nat) (e : Ev) (q : Nat) (x : Sg) (hx : v.sights[q]? = some x) : (vTl v i e).sights[q]? = some (if tailB v i e = true ∧ (v.now e.th.toNat).tri = q then ⟨x.tr, x.reads, x.fr, v.commits⟩ else x) := by
  unfold vTl
  dsimp only
  have hlt : q < v.sights.length := (List.getElem?_eq_some_iff.1 hx).1
  by_cases h : tailB v i e = true
  · rw [if_pos h]
    dsimp only
    rw [List.getElem?_set]
    by_cases hq : (v.now e.th.toNat).tri = q
    · rw [if_pos hq, if_pos (show (v.now e.th.toNat).tri < v.sights.length by rw [hq]; exact hlt), if_pos (show tailB v i e = true ∧ (v.now e.th.toNat).tri = q from ⟨h, hq⟩), hq, List.getD_eq_getElem?_getD, hx]; rfl
    · rw [if_neg hq, if_neg (show ¬ (tailB v i e = true ∧ (v.now e.th.toNat).tri = q) from fun hh => hq hh.2), hx]
  · rw [if_neg h, if_neg (show ¬ (tailB v i e = true ∧ (v.now e.th.toNat).tri = q) from fun hh => h hh.1), hx]
theorem tryK_last_lt {l : List Ev} : ∀ {k a : Nat}, a < k → (tryK l k a).last < k
  | k + 1, a, h => by
    by_cases hk : a = k
    · subst hk; rw [tryK_new]; exact Nat.lt_succ_self _
    · have ih := tryK_last_lt (l := l) (show a < k by omega)
      rw [tryK_succ (by omega)]
      split
      · omega
      · exact Nat.lt_succ_self _
theorem tryK_later {l : List Ev} {a k : Nat} (h : a < k) : ∀ m, k ≤ m → (tryK l m a).last = (tryK l k a).last ∨ k ≤ (tryK l m a).last
  | m, hm => by
    induction m with
    | zero => omega
    | succ m ih =>
      by_cases e : k = m + 1
      · subst e; exact .inl rfl
      · have ih := ih (by omega)
        rw [tryK_succ (l := l) (k := m) (by omega)]
        split
        · exact ih
        · exact .inr (show k ≤ m by omega)
theorem tryK_full (l : List Ev) (a : Nat) : tryK l l.length a = tryF l a := rfl
theorem tryK_fix (l : List Ev) (k a : Nat) : (tryK l k a).th = (evAt l a).th ∧ (tryK l k a).first = a := tryS_fix l a _
/-- Behind its last event an attempt that is open has none. -/
theorem tryK_quiet {l : List Ev} : ∀ {k a : Nat}, a < k → (tryK l k a).how = 0 → ∀ j, (tryK l k a).last < j → j < k → (evAt l j).th ≠ (evAt l a).th
  | k + 1, a, h, h0, j, hj, hjk => by
    by_cases hk : a = k
    · subst hk
      rw [tryK_new] at hj
      dsimp only at hj
      omega
    · have hak : a < k := by omega
      rw [tryK_succ hak] at h0 hj
      by_cases hc : (tryK l k a).how ≠ 0 ∨ (evAt l k).th ≠ (tryK l k a).th
      · rw [if_pos hc] at h0 hj
        by_cases hjk2 : j = k
        · subst hjk2
          rcases hc with hc | hc
          · exact absurd h0 hc
          · rw [(tryK_fix l j a).1] at hc; exact hc
        · exact tryK_quiet hak h0 j hj (by omega)
      · rw [if_neg hc] at hj
        have : k < j := hj
        omega
theorem rdF_quiet {l : List Ev} {th : Int} {a n : Nat} : ∀ {m : Nat}, n ≤ m → (∀ j, n ≤ j → j < m → (evAt l (a + j)).th ≠ th) → rdF l th a m = rdF l th a n
  | 0, h, _ => by rw [show n = 0 by omega]
  | m + 1, h, hq => by
    by_cases e : n = m + 1
    · rw [e]
    · rw [← rdF_quiet (n := n) (m := m) (by omega) (fun j h1 h2 => hq j h1 (by omega))]
      show (if rdK (evAt l (a + m)) th = true then _ else _) = _
      rw [if_neg]
      have := hq m (by omega) (by omega)
      unfold rdK
      simp [this]
theorem rdF_succ (l : List Ev) (th : Int) (a n : Nat) : rdF l th a (n + 1) = if rdK (evAt l (a + n)) th = true then rdF l th a n ++ [((evAt l (a + n)).ad, (evAt l (a + n)).wd)] else rdF l th a n := rfl
theorem begs_pre (l : List Ev) (k : Nat) : ∀ m, k ≤ m → ∀ (q a : Nat), (begs l k)[q]? = some a → (begs l m)[q]? = some a
  | m, hm, q, a, hq => by
    induction m with
    | zero =>
      have hk0 : k = 0 := by omega
      rw [hk0] at hq
      exact hq
    | succ m ih =>
      by_cases e : k = m + 1
      · subst e; exact hq
      · have ih := ih (by omega)
        show (if (evAt l m).kd = 1 then begs l m ++ [m] else begs l m)[q]? = some a
        split
        · rw [List.getElem?_append_left ((List.getElem?_eq_some_iff.1 ih).1)]; exact ih
        · exact ih
/-- What an attempt has read ahead of event k. -/
def rdsK (l : List Ev) (k a : Nat) : List (Int × Int) := if (tryK l k a).how = 0 then rdF l (evAt l a).th a (k - a) else rdF l (evAt l a).th a ((tryK l k a).last + 1 - a)
def SR (first : List Int) (T : List Tr) (l : List Ev) (k : Nat) : Prop :=
  ∀ (q a : Nat), (begs l k)[q]? = some a → ∃ x : Sg, (vn first T l k).sights[q]? = some x ∧ x.tr = tryF l a ∧ x.fr = (wrS l k).2.countP (fun c => decide (c < a)) ∧ x.reads = rdsK l k a ∧ ((tryF l a).last < k → x.upto = (wrS l k).2.countP (fun c => decide (c ≤ (tryF l a).last)))
theorem wrS_cnt_lt (l : List Ev) {k a : Nat} (h : a ≤ k) : (wrS l (k + 1)).2.countP (fun c => decide (c < a)) = (wrS l k).2.countP (fun c => decide (c < a)) := by
  rw [wrS_succ]
  repeat' split
  · rfl
  · dsimp only; rw [List.countP_append]; simp; omega
  · rfl
theorem wrS_cnt_le (l : List Ev) {k a : Nat} (h : a < k) : (wrS l (k + 1)).2.countP (fun c => decide (c ≤ a)) = (wrS l k).2.countP (fun c => decide (c ≤ a)) := by
  rw [wrS_succ]
  repeat' split
  · rfl
  · dsimp only; rw [List.countP_append]; simp; omega
  · rfl
theorem wrS_cnt_all (l : List Ev) {k a : Nat} (h : k ≤ a + 1) : (wrS l k).2.countP (fun c => decide (c ≤ a)) = (wrS l k).2.length := by
  rw [List.countP_eq_length]
  intro c hc
  have := wrS_lt l k c hc
  simp; omega
theorem wrS_cnt_all' (l : List Ev) (k : Nat) : (wrS l k).2.countP (fun c => decide (c < k)) = (wrS l k).2.length := by
  rw [List.countP_eq_length]
  intro c hc
  have := wrS_lt l k c hc
  simp; omega
theorem SR.step {first : List Int} {l : List Ev} (hwf : ∀ e ∈ l, EvWf e) (hok : okTo l l.length) (hp : idxE plainE l < 0) (hf : idxE (farE first.length) l < 0) {k : Nat} (hk : k < l.length) (h : SR first (trsF l l.length) l k) : SR first (trsF l l.length) l (k + 1) := by
  have hVI := VI.vn (T := trsF l l.length) hwf hok hp hf (show k ≤ l.length by omega)
  have hVR := VR.all (T := trsF l l.length) hwf hok hp hf k (by omega)
  have hVR' := VR.all (T := trsF l l.length) hwf hok hp hf (k + 1) hk
  have hI := inv_rn hwf (show k ≤ l.length by omega) (fun j hj => hok j (by omega))
  have hT := rn_tries hwf hok k (by omega)
  have hw := hok k hk
  obtain ⟨hfm, htb, h9, -, -, -⟩ := wrong_zero hw
  obtain ⟨⟨h0, h8⟩, k1, k12⟩ := fmd_bd hfm
  have hv : vn first (trsF l l.length) l (k + 1) = vTl (vEv (trsF l l.length) (vn first (trsF l l.length) l k) (evAt l k)) k (evAt l k) := rfl
  have hcm' := hVR'.cm
  have hlen : (begs l k).length = (vn first (trsF l l.length) l k).next := by rw [hVI.nx, hT, List.length_map]
  have hcl : ∀ (q a : Nat), (begs l k)[q]? = some a → (tryK l k a).how = 0 → ∃ t' : Nat, t' < 8 ∧ (tryK l k a).th = (t' : Int) ∧ liveT ((rn l k).th t') ∧ ((vn first (trsF l l.length) l k).now t').tri = q := fun q a hq h => by
    have hx : (rn l k).tries[q]? = some (tryK l k a) := by rw [hT, List.getElem?_map, hq]; rfl
    obtain ⟨t', h1, h2, h3⟩ := hI.cl q _ hx
    exact ⟨t', h1, h2, (h3 h).1, (hVI.live t' h1 (h3 h).1).trans (h3 h).2⟩
  have hop : ∀ t', t' < 8 → liveT ((rn l k).th t') → ∃ a, (begs l k)[((vn first (trsF l l.length) l k).now t').tri]? = some a ∧ (tryK l k a).how = 0 ∧ (tryK l k a).th = (t' : Int) := fun t' ht' hl => by
    obtain ⟨x, h1, h2, h3⟩ := hI.op t' ht' hl
    rw [hT, List.getElem?_map] at h1
    rw [hVI.live t' ht' hl]
    cases hq : (begs l k)[((rn l k).th t').tr]? with
    | none => rw [hq] at h1; cases h1
    | some a =>
      rw [hq] at h1
      obtain rfl : tryK l k a = x := by simpa using h1
      exact ⟨a, rfl, h2, h3⟩
  have hve := vEv_sights (trsF l l.length) (vn first (trsF l l.length) l k) (evAt l k)
  have hvn := vEv_next (trsF l l.length) (vn first (trsF l l.length) l k) (evAt l k)
  have hvo := vEv_now (trsF l l.length) (vn first (trsF l l.length) l k) (evAt l k)
  obtain ⟨-, -, htc, -⟩ := vTl_same (vEv (trsF l l.length) (vn first (trsF l l.length) l k) (evAt l k)) k (evAt l k)
  rw [← hv] at htc
  obtain ⟨t, ht⟩ := Int.eq_ofNat_of_zero_le h0
  have ht8 : t < 8 := by omega
  have htn : (evAt l k).th.toNat = t := by rw [ht, Int.toNat_natCast]
  rw [htn] at hve hvo htb
  have hkd1 : (evAt l k).kd = 1 → ¬ liveT ((rn l k).th t) := fun h1 hl => by
    rw [h1] at htb
    rcases hl with hl | hl <;> rw [hl] at htb <;> simp [tb] at htb
  have hkd2 : (evAt l k).kd = 2 → liveT ((rn l k).th t) := fun h2 => by
    rw [h2] at htb
    have := hI.bd.how t
    unfold tb at htb
    by_cases e0 : ((rn l k).th t).how = 0
    · simp [e0] at htb
    · by_cases e1 : ((rn l k).th t).how = 1
      · exact .inl e1
      · by_cases e2 : ((rn l k).th t).how = 2
        · exact .inr e2
        · simp [e0, e1, e2] at htb
  -- the tail
  have tail : ∀ (q a : Nat) (x : Sg), a ≤ k → (vEv (trsF l l.length) (vn first (trsF l l.length) l k) (evAt l k)).sights[q]? = some x → x.tr = tryF l a → x.fr = (wrS l (k + 1)).2.countP (fun c => decide (c < a)) → x.reads = rdsK l (k + 1) a →
      ((tryF l a).last < k → x.upto = (wrS l k).2.countP (fun c => decide (c ≤ (tryF l a).last))) → ((tryF l a).last = k → ((vEv (trsF l l.length) (vn first (trsF l l.length) l k) (evAt l k)).now t).tri = q ∧ (tryF l a).th = (evAt l k).th ∧ 0 < (vEv (trsF l l.length) (vn first (trsF l l.length) l k) (evAt l k)).next) →
      ∃ x : Sg, (vn first (trsF l l.length) l (k + 1)).sights[q]? = some x ∧ x.tr = tryF l a ∧ x.fr = (wrS l (k + 1)).2.countP (fun c => decide (c < a)) ∧ x.reads = rdsK l (k + 1) a ∧ ((tryF l a).last < k + 1 → x.upto = (wrS l (k + 1)).2.countP (fun c => decide (c ≤ (tryF l a).last))) := by
    intro q a x hak hx h1 h2 h3 h4 h5
    have hg := vTl_get _ k (evAt l k) q x hx
    rw [← hv] at hg
    refine ⟨_, hg, ?_, ?_, ?_, ?_⟩
    · split <;> exact h1
    · split <;> exact h2
    · split <;> exact h3
    · intro hlast
      by_cases hlk : (tryF l a).last = k
      · obtain ⟨g1, g2, g3⟩ := h5 hlk
        have hb := tailB_of (i := k) (e := evAt l k) g3 (by rw [htn]; exact g1) hx (by rw [h1]; exact g2) (by rw [h1]; exact hlk)
        rw [if_pos ⟨hb, by rw [htn]; exact g1⟩]
        dsimp only
        rw [← htc, hcm', hlk, wrS_cnt_all l (by omega)]
      · rw [if_neg]
        · rw [h4 (by omega), wrS_cnt_le l (by omega)]
        · rintro ⟨hb, hq⟩
          have := tailB_last hb hq hx
          rw [h1] at this
          exact hlk this
  intro q a hqa
  have hqa : (if (evAt l k).kd = 1 then begs l k ++ [k] else begs l k)[q]? = some a := hqa
  have hold : (begs l k)[q]? = some a → ∃ x : Sg, (vn first (trsF l l.length) l (k + 1)).sights[q]? = some x ∧ x.tr = tryF l a ∧ x.fr = (wrS l (k + 1)).2.countP (fun c => decide (c < a)) ∧ x.reads = rdsK l (k + 1) a ∧ ((tryF l a).last < k + 1 → x.upto = (wrS l (k + 1)).2.countP (fun c => decide (c ≤ (tryF l a).last))) := by
    intro hq
    have hak : a < k := begs_lt l k a (List.mem_of_getElem? hq)
    obtain ⟨x, hx, x1, x2, x3, x4⟩ := h q a hq
    have hqlt : q < (vn first (trsF l l.length) l k).sights.length := (List.getElem?_eq_some_iff.1 hx).1
    have hks := tryK_succ (l := l) hak
    have hfix := tryK_fix l k a
    -- which attempt the event is of
    have hmine : (¬ ((tryK l k a).how ≠ 0 ∨ (evAt l k).th ≠ (tryK l k a).th)) → liveT ((rn l k).th t) ∧ ((vn first (trsF l l.length) l k).now t).tri = q ∧ (evAt l k).kd ≠ 1 := fun hc => by
      have hc1 : (tryK l k a).how = 0 := Classical.byContradiction fun e => hc (.inl e)
      have hc2 : (evAt l k).th = (tryK l k a).th := Classical.byContradiction fun e => hc (.inr e)
      obtain ⟨t', g1, g2, g3, g4⟩ := hcl q a hq hc1
      have : t' = t := by omega
      subst this
      exact ⟨g3, g4, fun e => hkd1 e g3⟩
    have hnot : ((tryK l k a).how ≠ 0 ∨ (evAt l k).th ≠ (tryK l k a).th) → (evAt l k).kd = 2 → ((vn first (trsF l l.length) l k).now t).tri ≠ q := fun hc h2 e => by
      obtain ⟨a', g1, g2, g3⟩ := hop t ht8 (hkd2 h2)
      rw [e, hq] at g1
      obtain rfl : a = a' := by simpa using g1
      rcases hc with hc | hc
      · exact hc g2
      · rw [g3, ht] at hc; exact hc rfl
    have hlast5 : (tryF l a).last = k → ((vEv (trsF l l.length) (vn first (trsF l l.length) l k) (evAt l k)).now t).tri = q ∧ (tryF l a).th = (evAt l k).th ∧ 0 < (vEv (trsF l l.length) (vn first (trsF l l.length) l k) (evAt l k)).next := fun hl => by
      have hl2 : (tryK l (k + 1) a).last = k := by
        rcases tryK_later (l := l) (show a < k + 1 by omega) l.length hk with e | e
        · rw [← e]; exact hl
        · rw [tryK_full] at e; omega
      have hc : ¬ ((tryK l k a).how ≠ 0 ∨ (evAt l k).th ≠ (tryK l k a).th) := fun hc => by
        rw [hks, if_pos hc] at hl2
        have := tryK_last_lt (l := l) hak
        omega
      obtain ⟨g1, g2, g3⟩ := hmine hc
      refine ⟨?_, ?_, ?_⟩
      · rw [hvo, if_neg g3]
        repeat' split
        all_goals exact g2
      · have hc2 : (evAt l k).th = (tryK l k a).th := Classical.byContradiction fun e => hc (.inr e)
        rw [hc2, hfix.1, ← tryK_full, (tryK_fix l l.length a).1]
      · rw [hvn, if_neg g3, ← hlen]
        exact Nat.lt_of_le_of_lt (Nat.zero_le q) ((List.getElem?_eq_some_iff.1 hq).1)
    have hfr : (wrS l k).2.countP (fun c => decide (c < a)) = (wrS l (k + 1)).2.countP (fun c => decide (c < a)) := (wrS_cnt_lt l (by omega)).symm
    -- what has been read behind the event
    have hrd : rdsK l (k + 1) a = if ((evAt l k).kd = 2 ∧ (evAt l k).ow = false) ∧ ((vn first (trsF l l.length) l k).now t).tri = q then rdsK l k a ++ [((evAt l k).ad, (evAt l k).wd)] else rdsK l k a := by
      have hstep : rdF l (evAt l a).th a (k + 1 - a) = if rdK (evAt l k) (evAt l a).th = true then rdF l (evAt l a).th a (k - a) ++ [((evAt l k).ad, (evAt l k).wd)] else rdF l (evAt l a).th a (k - a) := by
        rw [show k + 1 - a = k - a + 1 by omega, rdF_succ, show a + (k - a) = k by omega]
      by_cases hc : (tryK l k a).how ≠ 0 ∨ (evAt l k).th ≠ (tryK l k a).th
      · rw [if_neg (fun hh => hnot hc hh.1.1 hh.2)]
        unfold rdsK
        rw [hks, if_pos hc]
        by_cases e0 : (tryK l k a).how = 0
        · rw [if_pos e0, if_pos e0, hstep, if_neg]
          have hth : (evAt l k).th ≠ (evAt l a).th := by
            rcases hc with hc | hc
            · exact absurd e0 hc
            · rw [hfix.1] at hc; exact hc
          unfold rdK
          simp [hth]
        · rw [if_neg e0, if_neg e0]
      · obtain ⟨g1, g2, g3⟩ := hmine hc
        have hc1 : (tryK l k a).how = 0 := Classical.byContradiction fun e => hc (.inl e)
        have hc2 : (evAt l k).th = (evAt l a).th := by
          have : (evAt l k).th = (tryK l k a).th := Classical.byContradiction fun e => hc (.inr e)
          rw [this, hfix.1]
        have hr : rdsK l (k + 1) a = rdF l (evAt l a).th a (k + 1 - a) := by
          unfold rdsK
          split
          · rfl
          · rw [hks, if_neg hc]; rfl
        have hr0 : rdsK l k a = rdF l (evAt l a).th a (k - a) := by unfold rdsK; rw [if_pos hc1]
        rw [hr, hr0, hstep]
        by_cases hk2 : (evAt l k).kd = 2 ∧ (evAt l k).ow = false
        · have hK : rdK (evAt l k) (evAt l a).th = true := by unfold rdK; simp [hc2, hk2.1, hk2.2]
          rw [if_pos hK, if_pos ⟨hk2, g2⟩]
        · have hK : ¬ rdK (evAt l k) (evAt l a).th = true := by
            unfold rdK
            intro hh
            simp at hh
            exact hk2 ⟨hh.1.2, hh.2⟩
          rw [if_neg hK, if_neg (fun hh => hk2 hh.1)]
    by_cases c1 : (evAt l k).kd = 1
    · refine tail q a x (by omega) ?_ x1 (x2.trans hfr) ?_ x4 hlast5
      · rw [hve, if_pos c1, List.getElem?_append_left hqlt]; exact hx
      · rw [x3, hrd, if_neg (fun hh => by have := hh.1.1; omega)]
    · by_cases hk2 : (evAt l k).kd = 2 ∧ (evAt l k).ow = false
      · by_cases hq2 : ((vn first (trsF l l.length) l k).now t).tri = q
        · refine tail q a ⟨x.tr, x.reads ++ [((evAt l k).ad, (evAt l k).wd)], x.fr, x.upto⟩ (by omega) ?_ x1 (x2.trans hfr) ?_ x4 hlast5
          · rw [hve, if_neg c1, if_pos hk2, hq2, List.getElem?_set, if_pos rfl, if_pos hqlt, List.getD_eq_getElem?_getD, hx]; rfl
          · rw [hrd, if_pos ⟨hk2, hq2⟩, ← x3]
        · refine tail q a x (by omega) ?_ x1 (x2.trans hfr) ?_ x4 hlast5
          · rw [hve, if_neg c1, if_pos hk2, List.getElem?_set, if_neg hq2]; exact hx
          · rw [x3, hrd, if_neg (fun hh => hq2 hh.2)]
      · refine tail q a x (by omega) ?_ x1 (x2.trans hfr) ?_ x4 hlast5
        · rw [hve, if_neg c1, if_neg hk2]; exact hx
        · rw [x3, hrd, if_neg (fun hh => hk2 hh.1)]
  by_cases c1 : (evAt l k).kd = 1
  · rw [if_pos c1] at hqa
    by_cases hq : q < (begs l k).length
    · exact hold (by rw [List.getElem?_append_left hq] at hqa; exact hqa)
    · have hq2 : q = (begs l k).length := by
        have := (List.getElem?_eq_some_iff.1 hqa).1
        rw [List.length_append, List.length_singleton] at this
        omega
      subst hq2
      rw [List.getElem?_append_right (Nat.le_refl _), Nat.sub_self] at hqa
      obtain rfl : k = a := by simpa using hqa
      have hTq : (trsF l l.length).getD (vn first (trsF l l.length) l k).next Tr.zero = tryF l k := by
        rw [← hlen, List.getD_eq_getElem?_getD, trsF_begs, List.getElem?_map, begs_pre l (k + 1) l.length hk (begs l k).length k (by
          show (if (evAt l k).kd = 1 then begs l k ++ [k] else begs l k)[_]? = _
          rw [if_pos c1, List.getElem?_append_right (Nat.le_refl _), Nat.sub_self]; rfl)]
        rfl
      have hlast : k ≤ (tryF l k).last := (tryF_rng hk).2.1
      refine tail _ k ⟨(trsF l l.length).getD (vn first (trsF l l.length) l k).next Tr.zero, [], (vn first (trsF l l.length) l k).commits, 0⟩ (Nat.le_refl _) ?_ hTq ?_ ?_ (fun hh => by omega) ?_
      · rw [hve, if_pos c1, List.getElem?_append_right (by rw [hVI.sl, hlen]; exact Nat.le_refl _), hVI.sl, hlen, Nat.sub_self]; rfl
      · dsimp only
        rw [hVR.cm, wrS_cnt_lt l (Nat.le_refl _), wrS_cnt_all']
      · dsimp only
        unfold rdsK
        rw [tryK_new, if_pos rfl, show k + 1 - k = 0 + 1 by omega, rdF_succ, if_neg]
        · rfl
        · unfold rdK
          rw [Nat.add_zero, c1]
          simp
      · intro _
        refine ⟨?_, ?_, ?_⟩
        · rw [hvo, if_pos c1]; exact hlen.symm
        · rw [← tryK_full, (tryK_fix l l.length k).1]
        · rw [hvn, if_pos c1]; exact Nat.succ_pos _
  · rw [if_neg c1] at hqa
    exact hold hqa
theorem SR.all {first : List Int} {l : List Ev} (hwf : ∀ e ∈ l, EvWf e) (hok : okTo l l.length) (hp : idxE plainE l < 0) (hf : idxE (farE first.length) l < 0) : ∀ k, k ≤ l.length → SR first (trsF l l.length) l k
  | 0, _ => fun q a h => by simp [begs] at h
  | k + 1, hk => (SR.all hwf hok hp hf k (by omega)).step hwf hok hp hf (by omega)
end Go.Proofs.Ytloiadhdkgkjkaa
/- Plain law of chapter 16: the sights are the document's. -/
namespace Go.Proofs.Ytloiadhdkgkjkaa
set_option maxHeartbeats 4000000
set_option linter.unusedVariables false
set_option linter.unusedSimpArgs false
theorem stS_hist (first : List Int) (l : List Ev) (W : List Nat) : ∀ j m, m ≤ j → (stS first l W j).2.getD m [] = (stS first l W m).1
  | 0, m, h => by
    have hm0 : m = 0 := by omega
    rw [hm0]
    rfl
  | j + 1, m, h => by
    have hl := (stS_len first l W j).2
    show ((stS first l W j).2 ++ [(stS first l W (j + 1)).1]).getD m [] = _
    rw [List.getD_eq_getElem?_getD]
    by_cases hm : m = j + 1
    · subst hm
      rw [List.getElem?_append_right (by omega), hl, Nat.sub_self]; rfl
    · rw [List.getElem?_append_left (by omega), ← List.getD_eq_getElem?_getD]
      exact stS_hist first l W j m (by omega)
theorem seek_at {cells : Nat → List (Nat × Int)} {L : List (List Int)} {reads : List (Int × Int)} {fr : Nat} : ∀ n, (∀ i, i < n → stoodW cells (fr + i) reads = stoodR (L.getD (fr + i) []) reads) → seekS cells reads fr (fr + n) = atR L reads fr n
  | 0, _ => by
    rw [Nat.add_zero]
    cases fr with
    | zero => rfl
    | succ m => show (if m < m + 1 then (-1 : Int) else _) = -1; rw [if_pos (Nat.lt_succ_self m)]
  | n + 1, h => by
    show (if fr + n < fr then (-1 : Int) else if stoodW cells (fr + n) reads = true then ((fr + n : Nat) : Int) else seekS cells reads fr (fr + n)) = if stoodR (L.getD (fr + n) []) reads = true then ((fr + n : Nat) : Int) else atR L reads fr n
    rw [if_neg (by omega), h n (Nat.lt_succ_self n), seek_at n (fun i hi => h i (by omega))]
theorem seek_all {cells : Nat → List (Nat × Int)} {L : List (List Int)} {reads : List (Int × Int)} {fr up : Nat} (h : ∀ m, m ≤ up → stoodW cells m reads = stoodR (L.getD m []) reads) : seekS cells reads fr (up + 1) = atR L reads fr (up + 1 - fr) := by
  by_cases hf : fr ≤ up + 1
  · have := seek_at (cells := cells) (L := L) (reads := reads) (fr := fr) (up + 1 - fr) (fun i hi => h _ (by omega))
    rw [show fr + (up + 1 - fr) = up + 1 by omega] at this
    exact this
  · rw [show up + 1 - fr = 0 by omega]
    show (if up < fr then (-1 : Int) else _) = -1
    rw [if_pos (by omega)]
theorem rdsK_words {l : List Ev} {a : Nat} (ha : a < l.length) : rdsK l l.length a = wordsR l (tryF l a) := by
  obtain ⟨h1, h2, h3⟩ := tryF_rng ha
  have hth : (tryF l a).th = (evAt l a).th := (tryK_fix l l.length a).1
  unfold rdsK wordsR
  rw [tryK_full, h1, hth]
  by_cases h0 : (tryF l a).how = 0
  · rw [if_pos h0]
    exact rdF_quiet (by omega) fun j g1 g2 => tryK_quiet ha (by rw [tryK_full]; exact h0) (a + j) (by rw [tryK_full]; omega) (by omega)
  · rw [if_neg h0]
theorem encG_congr {x y : Sg} {p q : Int} (h1 : x.tr = y.tr) (h2 : x.fr = y.fr) (h3 : x.upto = y.upto) (h4 : p = q) : encG (x, p) = encG (y, q) := by
  unfold encG
  dsimp only
  rw [h1, h2, h3, h4]
theorem sig_eq {first : List Int} {l : List Ev} (hwf : ∀ e ∈ l, EvWf e) : (sigA first l).map encG = (sigR first l).map encG := by
  unfold sigA sigR
  by_cases hz : (seeOdd first.length l).2 ≠ 0
  · rw [if_pos hz, if_pos hz]
  rw [if_neg hz, if_neg hz]
  have hso := seeOdd_zero (n := first.length) (l := l) (Classical.byContradiction hz)
  obtain ⟨-, hodd, hp, hf⟩ := seeOdd_ok hso
  have hok := okTo_of_odd hodd l.length (Nat.le_refl _)
  have hT := rn_trsF hwf hok
  unfold vAll sightsOf
  rw [hT]
  have hVI := VI.vn (T := trsF l l.length) hwf hok hp hf (Nat.le_refl _)
  have hVJ := VJ.vn (T := trsF l l.length) (first := first) hwf hf (Nat.le_refl _)
  have hVR := VR.all (T := trsF l l.length) hwf hok hp hf l.length (Nat.le_refl _)
  have hSR := SR.all hwf hok hp hf l.length (Nat.le_refl _)
  have hlen : (vn first (trsF l l.length) l l.length).sights.length = (begs l l.length).length := by rw [hVI.sl, hVI.nx, rn_tries hwf hok _ (Nat.le_refl _), List.length_map]
  rw [List.map_map, List.map_map, trsF_begs, List.map_map]
  rw [← trsF_begs]
  apply List.ext_getElem?
  intro q
  rw [List.getElem?_map, List.getElem?_map]
  by_cases hq : q < (begs l l.length).length
  · have hqa := List.getElem?_eq_getElem hq
    generalize (begs l l.length)[q] = a at hqa
    have ha : a < l.length := begs_lt l _ a (List.mem_of_getElem? hqa)
    obtain ⟨x, hx, x1, x2, x3, x4⟩ := hSR q a hqa
    obtain ⟨y1, y2, y3⟩ := tryF_rng ha
    rw [hqa, hx]
    simp only [Option.map_some, Function.comp]
    congr 1
    have hfr : x.fr = frR (wrS l l.length).2 (tryF l a) := by rw [x2]; unfold frR; rw [y1]
    have hup : x.upto = upR (wrS l l.length).2 (tryF l a) := x4 y3
    have hrd : x.reads = wordsR l (tryF l a) := by rw [x3, rdsK_words ha]
    unfold siR
    refine encG_congr x1 hfr hup ?_
    unfold atOf
    rw [hrd, hfr, hup]
    refine seek_all fun m hm => ?_
    have hmW : m ≤ (wrS l l.length).2.length := Nat.le_trans hm (List.countP_le_length ..)
    have hxr := hVJ.rd x (List.mem_of_getElem? hx)
    rw [hrd] at hxr
    unfold stoodW stoodR
    rw [Bool.eq_iff_iff, List.all_eq_true, List.all_eq_true]
    have hpt : ∀ p ∈ wordsR l (tryF l a), atW ((vn first (trsF l l.length) l l.length).cells p.1.toNat) m = ((stS first l (wrS l l.length).2 (wrS l l.length).2.length).2.getD m []).getD p.1.toNat 0 := fun p hpp => by
      obtain ⟨g1, g2⟩ := hxr p hpp
      rw [stS_hist _ _ _ _ _ hmW]
      exact hVR.ce m (by rw [hVR.cm]; exact hmW) _ (by omega)
    constructor
    · intro hh p hpp; rw [← hpt p hpp]; exact hh p hpp
    · intro hh p hpp; rw [hpt p hpp]; exact hh p hpp
  · rw [List.getElem?_eq_none (by rw [hlen]; omega), List.getElem?_eq_none (by omega)]
    rfl
theorem idxG_congr {a b : List (Sg × Int)} (h : a.map encG = b.map encG) : idxG a = idxG b := by
  have h2 : a.map (fun x => x.2) = b.map (fun x => x.2) := by
    have hl : a.length = b.length := by have := congrArg List.length h; simpa using this
    apply List.ext_getElem?
    intro q
    have hq : (a.map encG)[q]? = (b.map encG)[q]? := by rw [h]
    rw [List.getElem?_map, List.getElem?_map] at hq ⊢
    cases ha : a[q]? with
    | none =>
      cases hb : b[q]? with
      | none => rfl
      | some y => rw [ha, hb] at hq; cases hq
    | some x =>
      cases hb : b[q]? with
      | none => rw [ha, hb] at hq; cases hq
      | some y =>
        rw [ha, hb] at hq
        have e : encG x = encG y := by simpa using hq
        unfold encG at e
        simp at e
        simp [e.2.2.2.2.2.2.2.2.2]
  have key : ∀ l : List (Sg × Int), l.findIdx? (fun x => decide (x.2 < 0)) = (l.map (fun x => x.2)).findIdx? (fun z => decide (z < 0)) := fun l => by rw [List.findIdx?_map]; rfl
  unfold idxG
  rw [key a, key b, h2]
theorem chk_eq {first : List Int} {l : List Ev} (hwf : ∀ e ∈ l, EvWf e) : chkA first l = chkR first l := by
  have h := idxG_congr (sig_eq (first := first) hwf)
  unfold chkA chkR
  by_cases hz : (seeOdd first.length l).2 ≠ 0
  · rw [if_pos hz, if_pos hz]
  · rw [if_neg hz, if_neg hz, ← h]
    unfold sigA
    rw [if_neg hz]
end Go.Proofs.Ytloiadhdkgkjkaa
/- The law OpaqueSights: its statement out of its walk. Whatever the input, it answers true, and the input reads as before. -/
namespace Go.Proofs.Ytloiadhdkgkjkaa
open Go.RowKit
theorem opaqueSights_walk {W : World} {A0 A1 : Option Addr} {l0 : List Int} {l1 : List Ev} {c0 c1 : Nat} (w0 : WordsIn W A0 l0 c0) (w1 : LiesV W (.slice A1 l1.length c1) l1) (wf : ∀ e ∈ l1, EvWf e) (sz : l1.length * 48 ≤ 140737488351232) :
    Calls Try.prog 3 #[.slice A0 l0.length c0, .slice A1 l1.length c1] W fun x w' => x = .returned (.bool true) ∧ Below W.heap.size W w' :=
  sights_law sights_c check_c behind_c w0.lies w1 wf (by omega) (by have := w0.len; omega) w0.bd (sig_eq wf) (chk_eq wf)
end Go.Proofs.Ytloiadhdkgkjkaa
namespace Go.Proofs.Ytloiadhdkgkjkaa.opaqueSights
open Go.ChangeShapes Go.WideShapes Go.ChangeAt Go.RowKit Go.Deep
set_option linter.unusedVariables false
theorem own : ownKnob Try.prog.godebug = none := by kernel_rfl
theorem laidOut : laidOutB Try.prog = true := by kernel_rfl
set_option maxRecDepth 100000 in
theorem lifted (os : Os) (started : os.Started) (H : Type) (enc : TypeId × Value → H) :
    ReturnsInHanded {} Try.checked os 3 .any (Rows.opaqueSightsSpec.pre6 enc Try.prog Try.f3 Rows.opaqueSightsRow.domain false) (Rows.opaqueSightsSpec.post enc Try.prog Try.f3 false true false false) := by
  refine returnsInHanded_of_change_sized (C := Try.checked) own started (by kernel_rfl) Try.func3
    (ChangeSpec.witness6 (enc := enc) (C := Try.checked) false ⟨#[], #[.slice none 0 0, .slice none 0 0], []⟩ 8 (by kernel_rfl) (by kernel_rfl) (by kernel_rfl) (by kernel_rfl)) ?_
  intro W base args ds gs before hval0 hW hcnd hsz0 _
  have hval : ∀ (j : Nat) t v, Try.f3.params[j]? = some t → args[j]? = some v → Value.okWide Try.prog W .any base t v := hval0
  have hsz : (DataW.weightsEach Try.prog (Try.f3.params.toList ++ Rows.opaqueSightsSpec.plain.varTypes Try.prog) (ds ++ gs)).all (· ≤ reachBytes) = true := hsz0
  have hW' := hW
  obtain ⟨p, q, hA0, hV, rfl, hfz, hnd⟩ := hW
  have hA : DataW.TrodAll enc Try.prog W 0 (fun _ => true) true Try.f3.params.toList args.toList ds p := hA0
  rw [Try.params3] at hA hval hsz
  obtain ⟨v0, vs0, d0, ds0, p0, q0, hargs, rfl, rfl, h0, r0⟩ := trodAll_cons hA
  obtain ⟨v1, vs1, d1, ds1, p1, q1, rfl, rfl, rfl, h1, r1⟩ := trodAll_cons r0
  obtain ⟨rfl, rfl, rfl⟩ := trodAll_nil r1
  obtain rfl : args = #[v0, v1] := by cases args; simp_all
  obtain ⟨rfl, rfl⟩ := trodVars_none hV
  obtain ⟨a0, len0, cap0, rfl⟩ := okWide_slice Try.underlying22 (hval 0 22 v0 rfl rfl)
  have k0 := h0
  have lt0 : ∀ x ∈ p0, x.block < W.heap.size := by obtain ⟨m, hm⟩ := k0; exact DataW.trod_lt m _ _ _ hm
  obtain ⟨l0, rfl, w0⟩ := open_words hsz (j := 0) rfl rfl Try.underlying22 Try.underlying35 (by kernel_rfl) (by kernel_rfl) h0
  obtain ⟨a1, len1, cap1, rfl⟩ := okWide_slice Try.underlying23 (hval 1 23 v1 rfl rfl)
  have k1 := h1
  have lt1 : ∀ x ∈ p1, x.block < W.heap.size := by obtain ⟨m, hm⟩ := k1; exact DataW.trod_lt m _ _ _ hm
  obtain ⟨l1, rfl, w1, wf1, sz1⟩ := open_events hsz (j := 1) rfl rfl h1
  clear hA0 hval0 hsz0
  refine (opaqueSights_walk w0 w1 wf1 sz1).mono fun e W' ⟨he, bel⟩ => ?_
  subst he
  exact ⟨_, rfl, _, _, _, [], _, [], hW', trodAll_mk1 (shut_bool Try.underlying4 _), (trodAll_cons_mk (Below.trod laidOut (by kernel_rfl) (of_decide_eq_true (by kernel_rfl)) k0 bel lt0) (trodAll_cons_mk (Below.trod laidOut (by kernel_rfl) (of_decide_eq_true (by kernel_rfl)) k1 bel lt1) trodAll_mk0)), rfl, bel.frame _, fun h => by cases h⟩

theorem proved : Rows.OpaqueSightsSaid :=
  OpenClaim.holds_of_wide 3 Try.f3 rfl rfl rfl rfl rfl rfl rfl ⟨rfl, rfl, rfl, rfl, rfl⟩ rfl rfl rfl rfl rfl (by kernel_rfl) Try.func3 (by kernel_rfl)
    (of_decide_eq_true (by kernel_rfl)) (by unfold Func.isWrapper; first | (rw [if_pos (by decide +kernel)]; kernel_rfl) | (rw [if_neg (by decide +kernel)]; exact ⟨rfl, rfl⟩))
    (fun os started H enc _ => lifted os started H enc)
end Go.Proofs.Ytloiadhdkgkjkaa.opaqueSights
