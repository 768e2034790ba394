/- What holds of the look over a history behind each event, plain. -/
import Derived.Test.YtloiadhdkgkjkaaEvS
namespace Go.Proofs.Ytloiadhdkgkjkaa
set_option maxHeartbeats 1000000
set_option linter.unusedVariables false
set_option linter.unusedSimpArgs false

def lv (t : Th) : Nat := if t.how = 1 ∨ t.how = 2 then 1 else 0
def lives (s : St) : Nat := lv (s.th 0) + lv (s.th 1) + lv (s.th 2) + lv (s.th 3) + lv (s.th 4) + lv (s.th 5) + lv (s.th 6) + lv (s.th 7)
structure Inv (s : St) (k : Nat) : Prop where
  bd : StBd s k
  two : 2 * s.tries.length ≤ k + lives s
  hold : ∀ t, t < 8 → ((s.th t).how = 2 ↔ s.hold = (t : Int))
  op : ∀ t, t < 8 → liveT (s.th t) → ∃ x, s.tries[(s.th t).tr]? = some x ∧ x.how = 0 ∧ x.th = (t : Int)
  cl : ∀ (q : Nat) (x : Tr), s.tries[q]? = some x → ∃ t : Nat, t < 8 ∧ x.th = (t : Int) ∧ (x.how = 0 → liveT (s.th t) ∧ (s.th t).tr = q)
theorem lives_le (s : St) : lives s ≤ 8 := by
  have h : ∀ t : Th, lv t ≤ 1 := fun t => by unfold lv; split <;> omega
  unfold lives
  have := h (s.th 0); have := h (s.th 1); have := h (s.th 2); have := h (s.th 3); have := h (s.th 4); have := h (s.th 5); have := h (s.th 6); have := h (s.th 7)
  omega
theorem lives_upd (s : St) {t : Nat} (ht : t < 8) (x : Th) (n : Int) (h : Int) (l : List Tr) : lives ⟨fun j => if j = t then x else s.th j, n, h, l⟩ + lv (s.th t) = lives s + lv x := by
  have : t = 0 ∨ t = 1 ∨ t = 2 ∨ t = 3 ∨ t = 4 ∨ t = 5 ∨ t = 6 ∨ t = 7 := by omega
  unfold lives
  rcases this with rfl | rfl | rfl | rfl | rfl | rfl | rfl | rfl <;> simp <;> omega
theorem inv_zero : Inv St.zero 0 where
  bd := ⟨by simp [St.zero], by simp [St.zero], fun t => by simp [St.zero], fun t => by simp [St.zero], fun t h => by simp [St.zero, liveT] at h, by simp [St.zero], fun x hx => by simp [St.zero] at hx⟩
  two := by simp [St.zero]
  hold := fun t ht => by simp [St.zero]
  op := fun t ht h => by simp [St.zero, liveT] at h
  cl := fun q x h => by simp [St.zero] at h
theorem mem_modify {α : Type} {f : α → α} {l : List α} {i : Nat} {x : α} (h : x ∈ l.modify i f) : x ∈ l ∨ ∃ y ∈ l, x = f y := by
  obtain ⟨j, hj⟩ := List.mem_iff_getElem?.1 h
  rw [List.getElem?_modify] at hj
  cases hl : l[j]? with
  | none => simp [hl] at hj
  | some y =>
    have hm := List.mem_of_getElem? hl
    rw [hl] at hj
    by_cases hij : i = j
    · simp [hij] at hj
      exact .inr ⟨y, hm, hj.symm⟩
    · simp [hij] at hj
      subst hj
      exact .inl hm
theorem inv_take {s : St} {k : Nat} {e : Ev} (hI : Inv s k) (hw : wrong s e = 0) (he : EvWf e) : Inv (take s k e) (k + 1) := by
  obtain ⟨hf, htb, h9, hlk, hwd, hown⟩ := wrong_zero hw
  obtain ⟨⟨h0, h8⟩, k1, k12⟩ := fmd_bd hf
  obtain ⟨th, kd, ad, wd, ow, er⟩ := e
  dsimp only at *
  obtain ⟨t, rfl⟩ := Int.eq_ofNat_of_zero_le h0
  obtain ⟨c, rfl⟩ := Int.eq_ofNat_of_zero_le (show 0 ≤ kd by omega)
  rw [Int.toNat_natCast] at htb h9 hwd hown
  have ht : t < 8 := by omega
  have hc : c < 13 := by omega
  obtain ⟨⟨n0, n1⟩, ⟨hd0, hd1⟩, bhow, bsn, btr, blen, bcnt⟩ := hI.bd
  have hh := bhow t
  have htwo := hI.two
  have hhold := hI.hold
  have hop := hI.op
  have hcl := hI.cl
  have hwb := he.2.2.2.1
  have hcs := tb_ok hh hc htb
  -- the thread behind the event
  have hT : take s k ⟨t, c, ad, wd, ow, er⟩ = ⟨fun j => if j = t then tkT (s.th t) ⟨t, c, ad, wd, ow, er⟩ s.tries.length else s.th j, if c = 6 ∧ (s.th t).how = 2 then wd else s.num, if c = 5 then (t : Int) else if c = 6 ∧ (s.th t).how = 2 then -1 else s.hold,
      if (s.th t).how ≠ 0 ∨ c = 1 then (if c = 1 then s.tries ++ [Tr.new t k] else s.tries).modify (if c = 1 then s.tries.length else (s.th t).tr) (fun x => updT x k ⟨t, c, ad, wd, ow, er⟩) else s.tries⟩ := by
    unfold take
    dsimp only
    rw [Int.toNat_natCast]
    have e1 : ((c : Int) = 1) = (c = 1) := by simp; omega
    have e5 : ((c : Int) = 5) = (c = 5) := by simp; omega
    have e6 : ((c : Int) = 6) = (c = 6) := by simp; omega
    simp only [e1, e5, e6, tkT]
    by_cases h1 : c = 1
    · simp [h1]
    · simp [h1]
  rw [hT]
  have hlv := lives_upd s ht (tkT (s.th t) ⟨t, c, ad, wd, ow, er⟩ s.tries.length)
  generalize hTt : s.th t = T at *
  obtain ⟨how, sn, ws, tr⟩ := T
  dsimp only at *
  have hnum : 0 ≤ (if c = 6 ∧ how = 2 then wd else s.num) ∧ (if c = 6 ∧ how = 2 then wd else s.num) ≤ ((k + 1 : Nat) : Int) := by
    by_cases h6 : c = 6 ∧ how = 2
    · rw [if_pos h6]
      have := hwd
      unfold wordOk at this
      simp [h6] at this
      omega
    · rw [if_neg h6]; omega
  have hhd : -1 ≤ (if c = 5 then (t : Int) else if c = 6 ∧ how = 2 then -1 else s.hold) ∧ (if c = 5 then (t : Int) else if c = 6 ∧ how = 2 then -1 else s.hold) < 8 := by
    repeat' split
    all_goals omega
  have hlk5 : c = 5 → s.hold < 0 := fun h5 => hlk (by subst h5; rfl)
  rcases hcs with ⟨rfl, hc0⟩ | hB
  · by_cases hc1 : c = 1
    · -- a Begin
      subst hc1
      have hT' : tkT ⟨0, sn, ws, tr⟩ ⟨t, (1 : Nat), ad, wd, ow, er⟩ s.tries.length = ⟨1, wd, [], s.tries.length⟩ := by simp [tkT, tb]
      have hlen : s.tries.length < (s.tries ++ [Tr.new t k]).length := by simp
      have hL : (s.tries ++ [Tr.new t k]).modify s.tries.length (fun x => updT x k ⟨t, (1 : Nat), ad, wd, ow, er⟩) = s.tries ++ [⟨t, k, k, wd, 0, 0, 0⟩] := by
        rw [modify_set _ _ _ hlen]
        simp [Tr.new, updT]
      rw [hT'] at hlv ⊢
      simp only [if_pos, ne_eq, not_true_eq_false, or_true, if_true]
      rw [hL]
      refine ⟨⟨by simpa using hnum, by simpa using hhd, fun j => ?_, fun j => ?_, fun j hj => ?_, ?_, fun x hx => ?_⟩, ?_, fun j hj => ?_, fun j hj hl => ?_, fun q x hx => ?_⟩
      · dsimp only; split
        · simp
        · exact bhow j
      · dsimp only; split
        · exact hwb
        · exact bsn j
      · dsimp only at hj ⊢
        rw [List.length_append]
        by_cases hjt : j = t
        · rw [if_pos hjt]; simp
        · rw [if_neg hjt] at hj ⊢
          have := btr j hj
          simp; omega
      · simp; omega
      · rcases List.mem_append.1 hx with hx | hx
        · have := bcnt x hx; omega
        · rw [List.mem_singleton] at hx; subst hx; simp
      · have e1 : lv ⟨0, sn, ws, tr⟩ = 0 := rfl
        have e2 : lv ⟨1, wd, [], s.tries.length⟩ = 1 := rfl
        have hq := lives_upd s ht ⟨1, wd, [], s.tries.length⟩ (if 1 = 6 ∧ 0 = 2 then wd else s.num) (if 1 = 5 then (t : Int) else if 1 = 6 ∧ 0 = 2 then -1 else s.hold) (s.tries ++ [⟨t, k, k, wd, 0, 0, 0⟩])
        rw [hTt, e1, e2] at hq
        rw [List.length_append]
        simp only [List.length_cons, List.length_nil] at *
        omega
      · have := hhold j hj
        by_cases hjt : j = t
        · subst hjt
          rw [hTt] at this
          simp at this ⊢
          omega
        · simp [hjt]
          exact this
      · by_cases hjt : j = t
        · subst hjt
          exact ⟨⟨j, k, k, wd, 0, 0, 0⟩, by simp, rfl, rfl⟩
        · simp only [if_neg hjt] at hl ⊢
          obtain ⟨x, hx, r⟩ := hop j hj hl
          refine ⟨x, ?_, r⟩
          rw [List.getElem?_append_left (List.getElem?_eq_some_iff.1 hx).1]
          exact hx
      · rcases Nat.lt_or_ge q s.tries.length with hq | hq
        · rw [List.getElem?_append_left hq] at hx
          obtain ⟨t0, h1, h2, h3⟩ := hcl q x hx
          refine ⟨t0, h1, h2, fun h0 => ?_⟩
          obtain ⟨h4, h5⟩ := h3 h0
          have hne : t0 ≠ t := fun e => by subst e; rw [hTt] at h4; simp [liveT] at h4
          simp only [if_neg hne]
          exact ⟨h4, h5⟩
        · rw [List.getElem?_append_right hq] at hx
          have hq0 : q - s.tries.length = 0 := by
            rcases Nat.eq_zero_or_pos (q - s.tries.length) with h | h
            · exact h
            · rw [List.getElem?_eq_none (by simp; omega)] at hx; cases hx
          rw [hq0] at hx
          simp at hx
          subst hx
          refine ⟨t, ht, rfl, fun _ => ?_⟩
          simp only [if_pos]
          exact ⟨.inl rfl, by omega⟩
    · -- outside, no Begin
      have hnl : ∀ (X : Th), X = tkT ⟨0, sn, ws, tr⟩ ⟨t, (c : Int), ad, wd, ow, er⟩ s.tries.length → X.how ≠ 1 ∧ X.how ≠ 2 ∧ X.how < 4 ∧ X.sn = sn := fun X hX => by
        subst hX
        rcases hc0 with rfl | rfl | rfl | rfl | rfl
        all_goals simp [tkT, tb] at *
      have e7 : ((0 : Nat) ≠ 0 ∨ c = 1) = False := by simp [hc1]
      simp only [e7, if_false]
      generalize tkT ⟨0, sn, ws, tr⟩ ⟨t, (c : Int), ad, wd, ow, er⟩ s.tries.length = X at *
      obtain ⟨x1, x2, x4, x3⟩ := hnl X rfl
      have hnx : ¬ liveT X := by unfold liveT; omega
      have hnT : ¬ liveT (s.th t) := by rw [hTt]; simp [liveT]
      refine ⟨⟨hnum, hhd, fun j => ?_, fun j => ?_, fun j hj => ?_, ?_, fun x hx => ?_⟩, ?_, fun j hj => ?_, fun j hj hl => ?_, fun q x hx => ?_⟩
      · dsimp only; split
        · exact x4
        · exact bhow j
      · dsimp only; split
        · rw [x3]; have := bsn t; rw [hTt] at this; exact this
        · exact bsn j
      · dsimp only at hj ⊢
        by_cases hjt : j = t
        · rw [if_pos hjt] at hj; exact absurd hj hnx
        · rw [if_neg hjt] at hj ⊢; exact btr j hj
      · dsimp only; omega
      · have := bcnt x hx; omega
      · have e1 : lv ⟨0, sn, ws, tr⟩ = 0 := rfl
        have e2 : lv X = 0 := by unfold lv; rw [if_neg (by omega)]
        have hq := hlv (if c = 6 ∧ 0 = 2 then wd else s.num) (if c = 5 then (t : Int) else if c = 6 ∧ 0 = 2 then -1 else s.hold) s.tries
        rw [e1, e2] at hq
        dsimp only
        omega
      · have := hhold j hj
        have hc5 : c ≠ 5 := by omega
        by_cases hjt : j = t
        · subst hjt
          rw [hTt] at this
          simp [hc5] at this ⊢
          omega
        · simp [hjt, hc5]
          exact this
      · dsimp only at hl ⊢
        by_cases hjt : j = t
        · rw [if_pos hjt] at hl; exact absurd hl hnx
        · rw [if_neg hjt] at hl ⊢; exact hop j hj hl
      · obtain ⟨t0, h1, h2, h3⟩ := hcl q x hx
        refine ⟨t0, h1, h2, fun h0 => ?_⟩
        obtain ⟨h4, h5⟩ := h3 h0
        have hne : t0 ≠ t := fun e => by subst e; exact hnT h4
        simp only [if_neg hne]
        exact ⟨h4, h5⟩
  · -- inside
    have hlT : liveT (s.th t) := by rw [hTt]; unfold liveT; dsimp only; omega
    have hc1 : c ≠ 1 := by omega
    have hX : ∀ (X : Th), X = tkT ⟨how, sn, ws, tr⟩ ⟨t, (c : Int), ad, wd, ow, er⟩ s.tries.length → X.how < 4 ∧ (liveT X ↔ (c = 2 ∨ c = 3 ∨ c = 4 ∨ c = 5)) ∧ (X.how = 2 ↔ c = 5) ∧ (X.sn = sn ∨ X.sn = wd) ∧ X.tr = tr := fun X hX => by
      subst hX
      rcases hB with ⟨rfl, rfl | rfl | rfl | rfl | rfl | rfl | rfl | rfl⟩ | ⟨rfl, rfl⟩
      all_goals simp [tkT, tb, liveT]
    have hhow0 : how ≠ 0 := by omega
    have e7 : (how ≠ 0 ∨ c = 1) = True := by simp [hhow0]
    simp only [e7, if_true, if_neg hc1]
    generalize tkT ⟨how, sn, ws, tr⟩ ⟨t, (c : Int), ad, wd, ow, er⟩ s.tries.length = X at *
    obtain ⟨x1, x2, x3, x4, x5⟩ := hX X rfl
    obtain ⟨x0, hx0, hx00, hx0t⟩ := hop t ht hlT
    rw [hTt] at hx0
    dsimp only at hx0
    have hget : ∀ q, (s.tries.modify tr (fun x => updT x k ⟨t, (c : Int), ad, wd, ow, er⟩))[q]? = if q = tr then some (updT x0 k ⟨t, (c : Int), ad, wd, ow, er⟩) else s.tries[q]? := fun q => by
      rw [List.getElem?_modify]
      by_cases hq : q = tr
      · subst hq; simp [hx0]
      · rw [if_neg hq]
        simp [Ne.symm hq]
    have hup : (updT x0 k ⟨t, (c : Int), ad, wd, ow, er⟩).th = t ∧ ((updT x0 k ⟨t, (c : Int), ad, wd, ow, er⟩).how = 0 ↔ (c = 2 ∨ c = 3 ∨ c = 4 ∨ c = 5)) := by
      refine ⟨hx0t, ?_⟩
      rcases hB with ⟨rfl, rfl | rfl | rfl | rfl | rfl | rfl | rfl | rfl⟩ | ⟨rfl, rfl⟩
      all_goals simp [updT, hx00]
    refine ⟨⟨hnum, hhd, fun j => ?_, fun j => ?_, fun j hj => ?_, ?_, fun x hx => ?_⟩, ?_, fun j hj => ?_, fun j hj hl => ?_, fun q x hx => ?_⟩
    · dsimp only; split
      · exact x1
      · exact bhow j
    · dsimp only; split
      · have := bsn t; rw [hTt] at this; dsimp only at this
        rcases x4 with e | e <;> rw [e]
        · exact this
        · exact hwb
      · exact bsn j
    · dsimp only at hj ⊢
      rw [List.length_modify]
      by_cases hjt : j = t
      · rw [if_pos hjt, x5]; exact (List.getElem?_eq_some_iff.1 hx0).1
      · rw [if_neg hjt] at hj ⊢; exact btr j hj
    · simp; omega
    · rcases mem_modify hx with hx | ⟨y, hy, rfl⟩
      · have := bcnt x hx; omega
      · have := bcnt y hy
        unfold updT
        dsimp only
        constructor <;> split <;> omega
    · have e1 : lv ⟨how, sn, ws, tr⟩ = 1 := by unfold lv; dsimp only; rw [if_pos (by omega)]
      have hq := hlv (if c = 6 ∧ how = 2 then wd else s.num) (if c = 5 then (t : Int) else if c = 6 ∧ how = 2 then -1 else s.hold) (s.tries.modify tr (fun x => updT x k ⟨t, (c : Int), ad, wd, ow, er⟩))
      rw [e1] at hq
      rw [List.length_modify]
      omega
    · have hj0 := hhold j hj
      have ht0 := hhold t ht
      rw [hTt] at ht0
      dsimp only at ht0 ⊢
      by_cases hjt : j = t
      · subst hjt
        rw [if_pos rfl, x3]
        constructor
        · intro h5; rw [if_pos h5]
        · intro h5
          by_cases hc5 : c = 5
          · exact hc5
          · rw [if_neg hc5] at h5
            split at h5
            · omega
            · have := ht0.2 h5; omega
      · rw [if_neg hjt, hj0]
        by_cases hc5 : c = 5
        · have := hlk5 hc5
          rw [if_pos hc5]
          omega
        · rw [if_neg hc5]
          split
          · have := ht0.1 (by omega); omega
          · exact Iff.rfl
    · dsimp only at hl ⊢
      by_cases hjt : j = t
      · subst hjt
        rw [if_pos rfl] at hl ⊢
        refine ⟨_, by rw [hget, if_pos x5], hup.2.2 (x2.1 hl), hup.1⟩
      · rw [if_neg hjt] at hl ⊢
        obtain ⟨x, hx, r1, r2⟩ := hop j hj hl
        refine ⟨x, ?_, r1, r2⟩
        rw [hget, if_neg ?_]
        · exact hx
        · intro e
          rw [e, hx0] at hx
          injection hx with hx
          subst hx
          rw [hx0t] at r2
          omega
    · rw [hget] at hx
      by_cases hq : q = tr
      · rw [if_pos hq] at hx
        injection hx with hx
        subst hx
        refine ⟨t, ht, hup.1, fun h0 => ?_⟩
        simp only [if_pos]
        exact ⟨x2.2 (hup.2.1 h0), by rw [x5, hq]⟩
      · rw [if_neg hq] at hx
        obtain ⟨t0, h1, h2, h3⟩ := hcl q x hx
        refine ⟨t0, h1, h2, fun h0 => ?_⟩
        obtain ⟨h4, h5⟩ := h3 h0
        have hne : t0 ≠ t := fun e => by subst e; rw [hTt] at h5; exact hq h5.symm
        simp only [if_neg hne]
        exact ⟨h4, h5⟩
theorem inv_rn {l : List Ev} (hl : ∀ e ∈ l, EvWf e) : ∀ {n : Nat}, n ≤ l.length → okTo l n → Inv (rn l n) n
  | 0, _, _ => inv_zero
  | n + 1, hn, h => by
    have := inv_rn hl (Nat.le_of_succ_le hn) (fun j hj => h j (by omega))
    refine inv_take this (h n (by omega)) ?_
    unfold evAt
    rw [List.getD_eq_getElem?_getD, List.getElem?_eq_getElem hn]
    exact hl _ (List.getElem_mem hn)
end Go.Proofs.Ytloiadhdkgkjkaa
