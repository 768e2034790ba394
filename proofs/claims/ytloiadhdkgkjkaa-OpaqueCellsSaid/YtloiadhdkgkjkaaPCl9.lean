/- Plain law of chapter 16: what see gathers of each attempt is the document's. -/
import Derived.Test.YtloiadhdkgkjkaaLgA
import Derived.Below
import Derived.Deep.DeepCutAuto
import Derived.Deep.CutBlock
import Derived.Outline
import Derived.BigQuiet
import Derived.Test.YtloiadhdkgkjkaaPCl4
import Derived.Test.YtloiadhdkgkjkaaPCl5
import Derived.Test.YtloiadhdkgkjkaaPCl8
namespace Go.Proofs.Ytloiadhdkgkjkaa
set_option maxHeartbeats 4000000
set_option linter.unusedVariables false
set_option linter.unusedSimpArgs false
theorem vEv_sights (T : List Tr) (v : Vw) (e : Ev) : (vEv T v e).sights = if e.kd = 1 then v.sights ++ [⟨T.getD v.next Tr.zero, [], v.commits, 0⟩] else if e.kd = 2 ∧ e.ow = false then v.sights.set (v.now e.th.toNat).tri ⟨(v.sights.getD (v.now e.th.toNat).tri Sg.zero).tr, (v.sights.getD (v.now e.th.toNat).tri Sg.zero).reads ++ [(e.ad, e.wd)], (v.sights.getD (v.now e.th.toNat).tri Sg.zero).fr, (v.sights.getD (v.now e.th.toNat).tri Sg.zero).upto⟩ else v.sights := by
  unfold vEv
  dsimp only
  by_cases h1 : e.kd = 1
  · rw [if_pos h1, if_pos h1]
  by_cases h2 : e.kd = 2
  · rw [if_neg h1, if_pos h2, if_neg h1]
    cases e.ow
    · rw [if_neg (by decide), if_pos ⟨h2, rfl⟩]
    · rw [if_pos rfl, if_neg (fun h => by cases h.2)]
  rw [if_neg h1, if_neg h2, if_neg h1, if_neg (show ¬ (e.kd = 2 ∧ e.ow = false) from fun h => h2 h.1)]
  repeat' split
  all_goals rfl
theorem vEv_next (T : List Tr) (v : Vw) (e : Ev) : (vEv T v e).next = if e.kd = 1 then v.next + 1 else v.next := by
  unfold vEv
  dsimp only
  by_cases h1 : e.kd = 1
  · rw [if_pos h1, if_pos h1]
  rw [if_neg h1, if_neg h1]
  repeat' split
  all_goals rfl
theorem tailB_of {v : Vw} {i : Nat} {e : Ev} {q : Nat} {x : Sg} (hn : 0 < v.next) (hq : (v.now e.th.toNat).tri = q) (hx : v.sights[q]? = some x) (h1 : x.tr.th = e.th) (h2 : x.tr.last = i) : tailB v i e = true := by
  unfold tailB
  have hlt : q < v.sights.length := (List.getElem?_eq_some_iff.1 hx).1
  rw [hq, List.getD_eq_getElem?_getD, hx]
  simp [hn, hlt, h1, h2]
theorem tailB_last {v : Vw} {i : Nat} {e : Ev} {q : Nat} {x : Sg} (h : tailB v i e = true) (hq : (v.now e.th.toNat).tri = q) (hx : v.sights[q]? = some x) : x.tr.last = i := by
  unfold tailB at h
  rw [hq, List.getD_eq_getElem?_getD, hx] at h
  simp at h
  exact h.2.2.2
theorem vTl_get (v : Vw) (i : Nat) (e : Ev) (q : Nat) (x : Sg) (hx : v.sights[q]? = some x) : (vTl v i e).sights[q]? = some (if tailB v i e = true ∧ (v.now e.th.toNat).tri = q then ⟨x.tr, x.reads, x.fr, v.commits⟩ else x) := by
  unfold vTl
  dsimp only
  have hlt : q < v.sights.length := (List.getElem?_eq_some_iff.1 hx).1
  by_cases h : tailB v i e = true
  · rw [if_pos h]
    dsimp only
    rw [List.getElem?_set]
    by_cases hq : (v.now e.th.toNat).tri = q
    · rw [if_pos hq, if_pos (show (v.now e.th.toNat).tri < v.sights.length by rw [hq]; exact hlt), if_pos (show tailB v i e = true ∧ (v.now e.th.toNat).tri = q from ⟨h, hq⟩), hq, List.getD_eq_getElem?_getD, hx]; rfl
    · rw [if_neg hq, if_neg (show ¬ (tailB v i e = true ∧ (v.now e.th.toNat).tri = q) from fun hh => hq hh.2), hx]
  · rw [if_neg h, if_neg (show ¬ (tailB v i e = true ∧ (v.now e.th.toNat).tri = q) from fun hh => h hh.1), hx]
theorem tryK_last_lt {l : List Ev} : ∀ {k a : Nat}, a < k → (tryK l k a).last < k
  | k + 1, a, h => by
    by_cases hk : a = k
    · subst hk; rw [tryK_new]; exact Nat.lt_succ_self _
    · have ih := tryK_last_lt (l := l) (show a < k by omega)
      rw [tryK_succ (by omega)]
      split
      · omega
      · exact Nat.lt_succ_self _
theorem tryK_later {l : List Ev} {a k : Nat} (h : a < k) : ∀ m, k ≤ m → (tryK l m a).last = (tryK l k a).last ∨ k ≤ (tryK l m a).last
  | m, hm => by
    induction m with
    | zero => omega
    | succ m ih =>
      by_cases e : k = m + 1
      · subst e; exact .inl rfl
      · have ih := ih (by omega)
        rw [tryK_succ (l := l) (k := m) (by omega)]
        split
        · exact ih
        · exact .inr (show k ≤ m by omega)
theorem tryK_full (l : List Ev) (a : Nat) : tryK l l.length a = tryF l a := rfl
theorem tryK_fix (l : List Ev) (k a : Nat) : (tryK l k a).th = (evAt l a).th ∧ (tryK l k a).first = a := tryS_fix l a _
/-- Behind its last event an attempt that is open has none. -/
theorem tryK_quiet {l : List Ev} : ∀ {k a : Nat}, a < k → (tryK l k a).how = 0 → ∀ j, (tryK l k a).last < j → j < k → (evAt l j).th ≠ (evAt l a).th
  | k + 1, a, h, h0, j, hj, hjk => by
    by_cases hk : a = k
    · subst hk
      rw [tryK_new] at hj
      dsimp only at hj
      omega
    · have hak : a < k := by omega
      rw [tryK_succ hak] at h0 hj
      by_cases hc : (tryK l k a).how ≠ 0 ∨ (evAt l k).th ≠ (tryK l k a).th
      · rw [if_pos hc] at h0 hj
        by_cases hjk2 : j = k
        · subst hjk2
          rcases hc with hc | hc
          · exact absurd h0 hc
          · rw [(tryK_fix l j a).1] at hc; exact hc
        · exact tryK_quiet hak h0 j hj (by omega)
      · rw [if_neg hc] at hj
        have : k < j := hj
        omega
theorem rdF_quiet {l : List Ev} {th : Int} {a n : Nat} : ∀ {m : Nat}, n ≤ m → (∀ j, n ≤ j → j < m → (evAt l (a + j)).th ≠ th) → rdF l th a m = rdF l th a n
  | 0, h, _ => by rw [show n = 0 by omega]
  | m + 1, h, hq => by
    by_cases e : n = m + 1
    · rw [e]
    · rw [← rdF_quiet (n := n) (m := m) (by omega) (fun j h1 h2 => hq j h1 (by omega))]
      show (if rdK (evAt l (a + m)) th = true then _ else _) = _
      rw [if_neg]
      have := hq m (by omega) (by omega)
      unfold rdK
      simp [this]
theorem rdF_succ (l : List Ev) (th : Int) (a n : Nat) : rdF l th a (n + 1) = if rdK (evAt l (a + n)) th = true then rdF l th a n ++ [((evAt l (a + n)).ad, (evAt l (a + n)).wd)] else rdF l th a n := rfl
theorem begs_pre (l : List Ev) (k : Nat) : ∀ m, k ≤ m → ∀ (q a : Nat), (begs l k)[q]? = some a → (begs l m)[q]? = some a
  | m, hm, q, a, hq => by
    induction m with
    | zero =>
      have hk0 : k = 0 := by omega
      rw [hk0] at hq
      exact hq
    | succ m ih =>
      by_cases e : k = m + 1
      · subst e; exact hq
      · have ih := ih (by omega)
        show (if (evAt l m).kd = 1 then begs l m ++ [m] else begs l m)[q]? = some a
        split
        · rw [List.getElem?_append_left ((List.getElem?_eq_some_iff.1 ih).1)]; exact ih
        · exact ih
/-- What an attempt has read ahead of event k. -/
def rdsK (l : List Ev) (k a : Nat) : List (Int × Int) := if (tryK l k a).how = 0 then rdF l (evAt l a).th a (k - a) else rdF l (evAt l a).th a ((tryK l k a).last + 1 - a)
def SR (first : List Int) (T : List Tr) (l : List Ev) (k : Nat) : Prop :=
  ∀ (q a : Nat), (begs l k)[q]? = some a → ∃ x : Sg, (vn first T l k).sights[q]? = some x ∧ x.tr = tryF l a ∧ x.fr = (wrS l k).2.countP (fun c => decide (c < a)) ∧ x.reads = rdsK l k a ∧ ((tryF l a).last < k → x.upto = (wrS l k).2.countP (fun c => decide (c ≤ (tryF l a).last)))
theorem wrS_cnt_lt (l : List Ev) {k a : Nat} (h : a ≤ k) : (wrS l (k + 1)).2.countP (fun c => decide (c < a)) = (wrS l k).2.countP (fun c => decide (c < a)) := by
  rw [wrS_succ]
  repeat' split
  · rfl
  · dsimp only; rw [List.countP_append]; simp; omega
  · rfl
theorem wrS_cnt_le (l : List Ev) {k a : Nat} (h : a < k) : (wrS l (k + 1)).2.countP (fun c => decide (c ≤ a)) = (wrS l k).2.countP (fun c => decide (c ≤ a)) := by
  rw [wrS_succ]
  repeat' split
  · rfl
  · dsimp only; rw [List.countP_append]; simp; omega
  · rfl
theorem wrS_cnt_all (l : List Ev) {k a : Nat} (h : k ≤ a + 1) : (wrS l k).2.countP (fun c => decide (c ≤ a)) = (wrS l k).2.length := by
  rw [List.countP_eq_length]
  intro c hc
  have := wrS_lt l k c hc
  simp; omega
theorem wrS_cnt_all' (l : List Ev) (k : Nat) : (wrS l k).2.countP (fun c => decide (c < k)) = (wrS l k).2.length := by
  rw [List.countP_eq_length]
  intro c hc
  have := wrS_lt l k c hc
  simp; omega
theorem SR.step {first : List Int} {l : List Ev} (hwf : ∀ e ∈ l, EvWf e) (hok : okTo l l.length) (hp : idxE plainE l < 0) (hf : idxE (farE first.length) l < 0) {k : Nat} (hk : k < l.length) (h : SR first (trsF l l.length) l k) : SR first (trsF l l.length) l (k + 1) := by
  have hVI := VI.vn (T := trsF l l.length) hwf hok hp hf (show k ≤ l.length by omega)
  have hVR := VR.all (T := trsF l l.length) hwf hok hp hf k (by omega)
  have hVR' := VR.all (T := trsF l l.length) hwf hok hp hf (k + 1) hk
  have hI := inv_rn hwf (show k ≤ l.length by omega) (fun j hj => hok j (by omega))
  have hT := rn_tries hwf hok k (by omega)
  have hw := hok k hk
  obtain ⟨hfm, htb, h9, -, -, -⟩ := wrong_zero hw
  obtain ⟨⟨h0, h8⟩, k1, k12⟩ := fmd_bd hfm
  have hv : vn first (trsF l l.length) l (k + 1) = vTl (vEv (trsF l l.length) (vn first (trsF l l.length) l k) (evAt l k)) k (evAt l k) := rfl
  have hcm' := hVR'.cm
  have hlen : (begs l k).length = (vn first (trsF l l.length) l k).next := by rw [hVI.nx, hT, List.length_map]
  have hcl : ∀ (q a : Nat), (begs l k)[q]? = some a → (tryK l k a).how = 0 → ∃ t' : Nat, t' < 8 ∧ (tryK l k a).th = (t' : Int) ∧ liveT ((rn l k).th t') ∧ ((vn first (trsF l l.length) l k).now t').tri = q := fun q a hq h => by
    have hx : (rn l k).tries[q]? = some (tryK l k a) := by rw [hT, List.getElem?_map, hq]; rfl
    obtain ⟨t', h1, h2, h3⟩ := hI.cl q _ hx
    exact ⟨t', h1, h2, (h3 h).1, (hVI.live t' h1 (h3 h).1).trans (h3 h).2⟩
  have hop : ∀ t', t' < 8 → liveT ((rn l k).th t') → ∃ a, (begs l k)[((vn first (trsF l l.length) l k).now t').tri]? = some a ∧ (tryK l k a).how = 0 ∧ (tryK l k a).th = (t' : Int) := fun t' ht' hl => by
    obtain ⟨x, h1, h2, h3⟩ := hI.op t' ht' hl
    rw [hT, List.getElem?_map] at h1
    rw [hVI.live t' ht' hl]
    cases hq : (begs l k)[((rn l k).th t').tr]? with
    | none => rw [hq] at h1; cases h1
    | some a =>
      rw [hq] at h1
      obtain rfl : tryK l k a = x := by simpa using h1
      exact ⟨a, rfl, h2, h3⟩
  have hve := vEv_sights (trsF l l.length) (vn first (trsF l l.length) l k) (evAt l k)
  have hvn := vEv_next (trsF l l.length) (vn first (trsF l l.length) l k) (evAt l k)
  have hvo := vEv_now (trsF l l.length) (vn first (trsF l l.length) l k) (evAt l k)
  obtain ⟨-, -, htc, -⟩ := vTl_same (vEv (trsF l l.length) (vn first (trsF l l.length) l k) (evAt l k)) k (evAt l k)
  rw [← hv] at htc
  obtain ⟨t, ht⟩ := Int.eq_ofNat_of_zero_le h0
  have ht8 : t < 8 := by omega
  have htn : (evAt l k).th.toNat = t := by rw [ht, Int.toNat_natCast]
  rw [htn] at hve hvo htb
  have hkd1 : (evAt l k).kd = 1 → ¬ liveT ((rn l k).th t) := fun h1 hl => by
    rw [h1] at htb
    rcases hl with hl | hl <;> rw [hl] at htb <;> simp [tb] at htb
  have hkd2 : (evAt l k).kd = 2 → liveT ((rn l k).th t) := fun h2 => by
    rw [h2] at htb
    have := hI.bd.how t
    unfold tb at htb
    by_cases e0 : ((rn l k).th t).how = 0
    · simp [e0] at htb
    · by_cases e1 : ((rn l k).th t).how = 1
      · exact .inl e1
      · by_cases e2 : ((rn l k).th t).how = 2
        · exact .inr e2
        · simp [e0, e1, e2] at htb
  -- the tail
  have tail : ∀ (q a : Nat) (x : Sg), a ≤ k → (vEv (trsF l l.length) (vn first (trsF l l.length) l k) (evAt l k)).sights[q]? = some x → x.tr = tryF l a → x.fr = (wrS l (k + 1)).2.countP (fun c => decide (c < a)) → x.reads = rdsK l (k + 1) a →
      ((tryF l a).last < k → x.upto = (wrS l k).2.countP (fun c => decide (c ≤ (tryF l a).last))) → ((tryF l a).last = k → ((vEv (trsF l l.length) (vn first (trsF l l.length) l k) (evAt l k)).now t).tri = q ∧ (tryF l a).th = (evAt l k).th ∧ 0 < (vEv (trsF l l.length) (vn first (trsF l l.length) l k) (evAt l k)).next) →
      ∃ x : Sg, (vn first (trsF l l.length) l (k + 1)).sights[q]? = some x ∧ x.tr = tryF l a ∧ x.fr = (wrS l (k + 1)).2.countP (fun c => decide (c < a)) ∧ x.reads = rdsK l (k + 1) a ∧ ((tryF l a).last < k + 1 → x.upto = (wrS l (k + 1)).2.countP (fun c => decide (c ≤ (tryF l a).last))) := by
    intro q a x hak hx h1 h2 h3 h4 h5
    have hg := vTl_get _ k (evAt l k) q x hx
    rw [← hv] at hg
    refine ⟨_, hg, ?_, ?_, ?_, ?_⟩
    · split <;> exact h1
    · split <;> exact h2
    · split <;> exact h3
    · intro hlast
      by_cases hlk : (tryF l a).last = k
      · obtain ⟨g1, g2, g3⟩ := h5 hlk
        have hb := tailB_of (i := k) (e := evAt l k) g3 (by rw [htn]; exact g1) hx (by rw [h1]; exact g2) (by rw [h1]; exact hlk)
        rw [if_pos ⟨hb, by rw [htn]; exact g1⟩]
        dsimp only
        rw [← htc, hcm', hlk, wrS_cnt_all l (by omega)]
      · rw [if_neg]
        · rw [h4 (by omega), wrS_cnt_le l (by omega)]
        · rintro ⟨hb, hq⟩
          have := tailB_last hb hq hx
          rw [h1] at this
          exact hlk this
  intro q a hqa
  have hqa : (if (evAt l k).kd = 1 then begs l k ++ [k] else begs l k)[q]? = some a := hqa
  have hold : (begs l k)[q]? = some a → ∃ x : Sg, (vn first (trsF l l.length) l (k + 1)).sights[q]? = some x ∧ x.tr = tryF l a ∧ x.fr = (wrS l (k + 1)).2.countP (fun c => decide (c < a)) ∧ x.reads = rdsK l (k + 1) a ∧ ((tryF l a).last < k + 1 → x.upto = (wrS l (k + 1)).2.countP (fun c => decide (c ≤ (tryF l a).last))) := by
    intro hq
    have hak : a < k := begs_lt l k a (List.mem_of_getElem? hq)
    obtain ⟨x, hx, x1, x2, x3, x4⟩ := h q a hq
    have hqlt : q < (vn first (trsF l l.length) l k).sights.length := (List.getElem?_eq_some_iff.1 hx).1
    have hks := tryK_succ (l := l) hak
    have hfix := tryK_fix l k a
    -- which attempt the event is of
    have hmine : (¬ ((tryK l k a).how ≠ 0 ∨ (evAt l k).th ≠ (tryK l k a).th)) → liveT ((rn l k).th t) ∧ ((vn first (trsF l l.length) l k).now t).tri = q ∧ (evAt l k).kd ≠ 1 := fun hc => by
      have hc1 : (tryK l k a).how = 0 := Classical.byContradiction fun e => hc (.inl e)
      have hc2 : (evAt l k).th = (tryK l k a).th := Classical.byContradiction fun e => hc (.inr e)
      obtain ⟨t', g1, g2, g3, g4⟩ := hcl q a hq hc1
      have : t' = t := by omega
      subst this
      exact ⟨g3, g4, fun e => hkd1 e g3⟩
    have hnot : ((tryK l k a).how ≠ 0 ∨ (evAt l k).th ≠ (tryK l k a).th) → (evAt l k).kd = 2 → ((vn first (trsF l l.length) l k).now t).tri ≠ q := fun hc h2 e => by
      obtain ⟨a', g1, g2, g3⟩ := hop t ht8 (hkd2 h2)
      rw [e, hq] at g1
      obtain rfl : a = a' := by simpa using g1
      rcases hc with hc | hc
      · exact hc g2
      · rw [g3, ht] at hc; exact hc rfl
    have hlast5 : (tryF l a).last = k → ((vEv (trsF l l.length) (vn first (trsF l l.length) l k) (evAt l k)).now t).tri = q ∧ (tryF l a).th = (evAt l k).th ∧ 0 < (vEv (trsF l l.length) (vn first (trsF l l.length) l k) (evAt l k)).next := fun hl => by
      have hl2 : (tryK l (k + 1) a).last = k := by
        rcases tryK_later (l := l) (show a < k + 1 by omega) l.length hk with e | e
        · rw [← e]; exact hl
        · rw [tryK_full] at e; omega
      have hc : ¬ ((tryK l k a).how ≠ 0 ∨ (evAt l k).th ≠ (tryK l k a).th) := fun hc => by
        rw [hks, if_pos hc] at hl2
        have := tryK_last_lt (l := l) hak
        omega
      obtain ⟨g1, g2, g3⟩ := hmine hc
      refine ⟨?_, ?_, ?_⟩
      · rw [hvo, if_neg g3]
        repeat' split
        all_goals exact g2
      · have hc2 : (evAt l k).th = (tryK l k a).th := Classical.byContradiction fun e => hc (.inr e)
        rw [hc2, hfix.1, ← tryK_full, (tryK_fix l l.length a).1]
      · rw [hvn, if_neg g3, ← hlen]
        exact Nat.lt_of_le_of_lt (Nat.zero_le q) ((List.getElem?_eq_some_iff.1 hq).1)
    have hfr : (wrS l k).2.countP (fun c => decide (c < a)) = (wrS l (k + 1)).2.countP (fun c => decide (c < a)) := (wrS_cnt_lt l (by omega)).symm
    -- what has been read behind the event
    have hrd : rdsK l (k + 1) a = if ((evAt l k).kd = 2 ∧ (evAt l k).ow = false) ∧ ((vn first (trsF l l.length) l k).now t).tri = q then rdsK l k a ++ [((evAt l k).ad, (evAt l k).wd)] else rdsK l k a := by
      have hstep : rdF l (evAt l a).th a (k + 1 - a) = if rdK (evAt l k) (evAt l a).th = true then rdF l (evAt l a).th a (k - a) ++ [((evAt l k).ad, (evAt l k).wd)] else rdF l (evAt l a).th a (k - a) := by
        rw [show k + 1 - a = k - a + 1 by omega, rdF_succ, show a + (k - a) = k by omega]
      by_cases hc : (tryK l k a).how ≠ 0 ∨ (evAt l k).th ≠ (tryK l k a).th
      · rw [if_neg (fun hh => hnot hc hh.1.1 hh.2)]
        unfold rdsK
        rw [hks, if_pos hc]
        by_cases e0 : (tryK l k a).how = 0
        · rw [if_pos e0, if_pos e0, hstep, if_neg]
          have hth : (evAt l k).th ≠ (evAt l a).th := by
            rcases hc with hc | hc
            · exact absurd e0 hc
            · rw [hfix.1] at hc; exact hc
          unfold rdK
          simp [hth]
        · rw [if_neg e0, if_neg e0]
      · obtain ⟨g1, g2, g3⟩ := hmine hc
        have hc1 : (tryK l k a).how = 0 := Classical.byContradiction fun e => hc (.inl e)
        have hc2 : (evAt l k).th = (evAt l a).th := by
          have : (evAt l k).th = (tryK l k a).th := Classical.byContradiction fun e => hc (.inr e)
          rw [this, hfix.1]
        have hr : rdsK l (k + 1) a = rdF l (evAt l a).th a (k + 1 - a) := by
          unfold rdsK
          split
          · rfl
          · rw [hks, if_neg hc]; rfl
        have hr0 : rdsK l k a = rdF l (evAt l a).th a (k - a) := by unfold rdsK; rw [if_pos hc1]
        rw [hr, hr0, hstep]
        by_cases hk2 : (evAt l k).kd = 2 ∧ (evAt l k).ow = false
        · have hK : rdK (evAt l k) (evAt l a).th = true := by unfold rdK; simp [hc2, hk2.1, hk2.2]
          rw [if_pos hK, if_pos ⟨hk2, g2⟩]
        · have hK : ¬ rdK (evAt l k) (evAt l a).th = true := by
            unfold rdK
            intro hh
            simp at hh
            exact hk2 ⟨hh.1.2, hh.2⟩
          rw [if_neg hK, if_neg (fun hh => hk2 hh.1)]
    by_cases c1 : (evAt l k).kd = 1
    · refine tail q a x (by omega) ?_ x1 (x2.trans hfr) ?_ x4 hlast5
      · rw [hve, if_pos c1, List.getElem?_append_left hqlt]; exact hx
      · rw [x3, hrd, if_neg (fun hh => by have := hh.1.1; omega)]
    · by_cases hk2 : (evAt l k).kd = 2 ∧ (evAt l k).ow = false
      · by_cases hq2 : ((vn first (trsF l l.length) l k).now t).tri = q
        · refine tail q a ⟨x.tr, x.reads ++ [((evAt l k).ad, (evAt l k).wd)], x.fr, x.upto⟩ (by omega) ?_ x1 (x2.trans hfr) ?_ x4 hlast5
          · rw [hve, if_neg c1, if_pos hk2, hq2, List.getElem?_set, if_pos rfl, if_pos hqlt, List.getD_eq_getElem?_getD, hx]; rfl
          · rw [hrd, if_pos ⟨hk2, hq2⟩, ← x3]
        · refine tail q a x (by omega) ?_ x1 (x2.trans hfr) ?_ x4 hlast5
          · rw [hve, if_neg c1, if_pos hk2, List.getElem?_set, if_neg hq2]; exact hx
          · rw [x3, hrd, if_neg (fun hh => hq2 hh.2)]
      · refine tail q a x (by omega) ?_ x1 (x2.trans hfr) ?_ x4 hlast5
        · rw [hve, if_neg c1, if_neg hk2]; exact hx
        · rw [x3, hrd, if_neg (fun hh => hk2 hh.1)]
  by_cases c1 : (evAt l k).kd = 1
  · rw [if_pos c1] at hqa
    by_cases hq : q < (begs l k).length
    · exact hold (by rw [List.getElem?_append_left hq] at hqa; exact hqa)
    · have hq2 : q = (begs l k).length := by
        have := (List.getElem?_eq_some_iff.1 hqa).1
        rw [List.length_append, List.length_singleton] at this
        omega
      subst hq2
      rw [List.getElem?_append_right (Nat.le_refl _), Nat.sub_self] at hqa
      obtain rfl : k = a := by simpa using hqa
      have hTq : (trsF l l.length).getD (vn first (trsF l l.length) l k).next Tr.zero = tryF l k := by
        rw [← hlen, List.getD_eq_getElem?_getD, trsF_begs, List.getElem?_map, begs_pre l (k + 1) l.length hk (begs l k).length k (by
          show (if (evAt l k).kd = 1 then begs l k ++ [k] else begs l k)[_]? = _
          rw [if_pos c1, List.getElem?_append_right (Nat.le_refl _), Nat.sub_self]; rfl)]
        rfl
      have hlast : k ≤ (tryF l k).last := (tryF_rng hk).2.1
      refine tail _ k ⟨(trsF l l.length).getD (vn first (trsF l l.length) l k).next Tr.zero, [], (vn first (trsF l l.length) l k).commits, 0⟩ (Nat.le_refl _) ?_ hTq ?_ ?_ (fun hh => by omega) ?_
      · rw [hve, if_pos c1, List.getElem?_append_right (by rw [hVI.sl, hlen]; exact Nat.le_refl _), hVI.sl, hlen, Nat.sub_self]; rfl
      · dsimp only
        rw [hVR.cm, wrS_cnt_lt l (Nat.le_refl _), wrS_cnt_all']
      · dsimp only
        unfold rdsK
        rw [tryK_new, if_pos rfl, show k + 1 - k = 0 + 1 by omega, rdF_succ, if_neg]
        · rfl
        · unfold rdK
          rw [Nat.add_zero, c1]
          simp
      · intro _
        refine ⟨?_, ?_, ?_⟩
        · rw [hvo, if_pos c1]; exact hlen.symm
        · rw [← tryK_full, (tryK_fix l l.length k).1]
        · rw [hvn, if_pos c1]; exact Nat.succ_pos _
  · rw [if_neg c1] at hqa
    exact hold hqa
theorem SR.all {first : List Int} {l : List Ev} (hwf : ∀ e ∈ l, EvWf e) (hok : okTo l l.length) (hp : idxE plainE l < 0) (hf : idxE (farE first.length) l < 0) : ∀ k, k ≤ l.length → SR first (trsF l l.length) l k
  | 0, _ => fun q a h => by simp [begs] at h
  | k + 1, hk => (SR.all hwf hok hp hf k (by omega)).step hwf hok hp hf (by omega)
end Go.Proofs.Ytloiadhdkgkjkaa
/- The document's answer for chapter 16: Check and SameSights by contract. -/
namespace Go.Proofs.Ytloiadhdkgkjkaa
open Go.RowKit
set_option maxHeartbeats 40000000
set_option linter.unusedVariables false
set_option linter.unusedSimpArgs false
def chkR (first : List Int) (l : List Ev) : Int := if (seeOdd first.length l).2 ≠ 0 then 0 else idxG (sigR first l)
theorem sigR_len (first : List Int) (l : List Ev) : (sigR first l).length ≤ l.length := by
  unfold sigR
  split
  · simp
  · rw [List.length_map]; exact trsF_len l l.length
set_option maxRecDepth 100000 in
theorem rcheck16_b {w : World} {Fv : Value} {A : Option Addr} {cp : Nat} {first : List Int} {l : List Ev} (hF : Lies w Fv first) (hL : LiesV w (.slice A l.length cp) l) (hwf : ∀ e ∈ l, EvWf e) (hsz : l.length * 48 + 480 ≤ 140737488355328) (hfl : first.length ≤ 9223372036854775807) :
    Calls Try.prog 11 #[Fv, .slice A l.length cp] w fun x w' => Below w.heap.size w w' ∧ x = .returned (.tuple #[.int .i64 (chkR first l), .agg #[.int .i64 (seeOdd first.length l).1, .int .i64 (seeOdd first.length l).2]]) := by
  obtain ⟨Af, cf, rfl, -⟩ := (show ∃ A cp, Fv = .slice A first.length cp ∧ True from by obtain ⟨A, cp, h1, _⟩ := hF; exact ⟨A, cp, h1, trivial⟩)
  have hR1 := Blk.new w 28 #[.int .i64 0, .int .i64 0]
  have hb1 := (Below.refl w.heap.size w).alloc (Nat.le_refl _) (.cells #[.int .i64 0, .int .i64 0] 28)
  have C1 := Lib.hid (rsights_b (hF.below hb1) (hL.below hb1 (Nat.le_refl _)) hwf hsz hfl)
  have hsl := sigR_len first l
  obtain ⟨o1, ho1⟩ : ∃ o1, (seeOdd first.length l).1 = o1 := ⟨_, rfl⟩
  obtain ⟨o2, ho2⟩ : ∃ o2, (seeOdd first.length l).2 = o2 := ⟨_, rfl⟩
  obtain ⟨r, hr⟩ : ∃ r, chkR first l = r := ⟨_, rfl⟩
  rw [ho1, ho2] at C1 ⊢
  rw [hr]
  have hr2 : Hid (r = if o2 ≠ 0 then 0 else idxG (sigR first l)) := Lib.hid (by rw [← hr, ← ho2]; rfl)
  generalize sigR first l = L at *
  have hLi : (L.length : Int) ≤ 9223372036854775807 := by omega
  replace ho1 := Lib.hid ho1
  replace ho2 := Lib.hid ho2
  replace hr := Lib.hid hr
  replace hR1 := Lib.hid hR1
  replace hb1 := Lib.hid hb1
  clear hL hF hwf hsl
  go_enter Try.func11, Try.ntmps11
  go_wp2_with fail
  refine C1.out.mono ?_
  rintro _ w2 ⟨hb2, ov, rfl, hS2, ho2'⟩
  obtain ⟨AO, cO, rfl, -⟩ := hS2.shape
  have hR2 := hR1.out.below hb2 hR1.out.lt
  have hbw2 := hb1.out.trans (hb2.mono hb1.out.size)
  obtain ⟨w3, hw3⟩ : ∃ w3, w3 = w2.alloc (.cells #[.int .i64 o1, .int .i64 o2] 28) := ⟨_, rfl⟩
  have hR3 : Blk w3 w.heap.size 28 #[.int .i64 0, .int .i64 0] := by rw [hw3]; exact hR2.alloc _
  have hO3 : Blk w3 w2.heap.size 28 #[.int .i64 o1, .int .i64 o2] := by rw [hw3]; exact Blk.new _ _ _
  have hS3 : Hid (Sl 40 10 encG w3 (.slice AO L.length cO) L) := Lib.hid (by rw [hw3]; exact hS2.alloc _)
  have hb3 : Hid (Below w.heap.size w w3) := Lib.hid (by rw [hw3]; exact hbw2.alloc hbw2.size _)
  have hne : w.heap.size ≠ w2.heap.size := Nat.ne_of_lt hR2.lt
  have x0 := (hO3.cell 0).trans (show _ = some (.int .i64 o1) from rfl)
  have x1 := (hO3.cell 1).trans (show _ = some (.int .i64 o2) from rfl)
  have r0 := (hR3.cell 0).trans (show _ = some (.int .i64 0) from rfl)
  have r1 := (hR3.cell 1).trans (show _ = some (.int .i64 0) from rfl)
  have f0 := hR3.frozen 0
  have f1 := hR3.frozen 1
  subst hw3
  clear hb2 hR2 hbw2 C1 hb1 hR1 hS2 ho2' hR3 hO3
  by_cases hz : o2 = 0
  case neg =>
    have hz1 : (o2 != 0) = true := by simpa using hz
    rw [if_pos hz] at hr2
    replace hz := Lib.hid hz
    go_wp2
    refine wp_region_mixH (fun _ => True) [1, 3, 2] (List.range 3) (by kernel_rfl) (by kernel_rfl) (fun _ _ h => h) trivial ?_
    (repeat ((first | refine wpMixH_pure rfl rfl (fun K hK => ?_) | refine wpMixH_loc rfl rfl (fun K hK => ?_) | refine wpMixH_any rfl rfl (fun K hK => ?_)); go_simp; refine hK _ _ ?_; clear hK K))
    refine wpMixH_loud rfl rfl (fun n1 K hK => ?_)
    go_wp2
    refine hK _ _ (fun _ => trivial) ?_; clear hK K
    refine wpMixH_nil (fun n2 => ?_)
    go_wp2
    refine bodyPost_ret (v := .tuple #[.int .i64 0, .agg #[.int .i64 o1, .int .i64 o2]]) (by simp [results, Try.results11, go_sem, r0, r1, f0, f1]) rfl ⟨below_drewNs (((below_drewNs hb3.out _).setCell (Nat.le_refl _) _).setCell (Nat.le_refl _) _) _, by rw [hr2.out]⟩
  rw [if_neg (by simpa using hz)] at hr2
  subst hz
  go_wp2_with fail
  go_loopw [8] (fun c wr => ∃ k : Nat, k ≤ L.length ∧ c = .int .i64 (k : Int) ∧ wr = (w2.alloc (.cells #[.int .i64 o1, .int .i64 0] 28)) ∧ Hid (∀ j (hj : j < L.length), j < k → decide ((L[j]'hj).2 < 0) = false)) (fun c _ => L.length - (intOf c).toNat)
  case atStart => exact ⟨0, Nat.zero_le _, rfl, rfl, Lib.hid fun j hj h => by omega⟩
  case round =>
    obtain ⟨k, hk, rfl, rfl, hall⟩ := hrel
    by_cases hlt : k < L.length
    · have b1 : (k : Int) < L.length := by omega
      have w1 := IntWalk.i64_in (n := (k : Int) + 1) (by omega)
      obtain ⟨g, o, rfl, hg, hc⟩ := hS3.out.cell encG_len (by decide) hlt
      have d9 := (hc k hlt 9 (by decide)).1.trans (show _ = some (.int .i64 (L[k]'hlt).2) from rfl)
      rw [← Nat.add_assoc] at d9
      obtain ⟨z, hzz⟩ : ∃ z, (L[k]'hlt).2 = z := ⟨_, rfl⟩
      rw [hzz] at d9
      clear hc
      by_cases h0 : z < 0
      · have hi : Hid (r = (k : Int)) := Lib.hid (by rw [hr2.out]; exact idxG_some hlt (by rw [hzz]; exact decide_eq_true h0) fun j hj => hall.out j (by omega) hj)
        replace hzz := Lib.hid hzz
        go_wp2
        refine wp_region_mixH (fun _ => True) [3, 1, 3, 2] (List.range 4) (by kernel_rfl) (by kernel_rfl) (fun _ _ h => h) trivial ?_
        (repeat ((first | refine wpMixH_pure rfl rfl (fun K hK => ?_) | refine wpMixH_loc rfl rfl (fun K hK => ?_) | refine wpMixH_any rfl rfl (fun K hK => ?_)); go_simp; refine hK _ _ ?_; clear hK K))
        refine wpMixH_loud rfl rfl (fun n1 K hK => ?_)
        go_wp2
        refine hK _ _ (fun _ => trivial) ?_; clear hK K
        refine wpMixH_nil (fun n2 => ?_)
        go_wp2
        refine bodyPost_ret (v := .tuple #[.int .i64 k, .agg #[.int .i64 o1, .int .i64 0]]) (by simp [results, Try.results11, go_sem, r0, r1, f0, f1]) rfl ⟨below_drewNs (((below_drewNs hb3.out _).setCell (Nat.le_refl _) _).setCell (Nat.le_refl _) _) _, by rw [hi.out]⟩
      · replace hzz := Lib.hid hzz
        go_wp2
        go_roundw
        case rel => exact ⟨k + 1, hlt, by go_num, by trivial, Lib.hid fun j hj h => by
          by_cases e : j = k
          · subst e; rw [hzz.out]; exact decide_eq_false h0
          · exact hall.out j hj (by omega)⟩
        case measure => simp [intOf]; omega
    · have hi : Hid (r = -1) := Lib.hid (by rw [hr2.out]; exact idxG_none fun j hj => hall.out j hj (by omega))
      have b1 : ¬ (k : Int) < L.length := by omega
      clear hall
      go_wp2
      refine wp_region_mixH (fun _ => True) [1, 3, 2] (List.range 3) (by kernel_rfl) (by kernel_rfl) (fun _ _ h => h) trivial ?_
      (repeat ((first | refine wpMixH_pure rfl rfl (fun K hK => ?_) | refine wpMixH_loc rfl rfl (fun K hK => ?_) | refine wpMixH_any rfl rfl (fun K hK => ?_)); go_simp; refine hK _ _ ?_; clear hK K))
      refine wpMixH_loud rfl rfl (fun n1 K hK => ?_)
      go_wp2
      refine hK _ _ (fun _ => trivial) ?_; clear hK K
      refine wpMixH_nil (fun n2 => ?_)
      go_wp2
      refine bodyPost_ret (v := .tuple #[.int .i64 (-1), .agg #[.int .i64 o1, .int .i64 0]]) (by simp [results, Try.results11, go_sem, r0, r1, f0, f1]) rfl ⟨below_drewNs (((below_drewNs hb3.out _).setCell (Nat.le_refl _) _).setCell (Nat.le_refl _) _) _, by rw [hi.out]⟩
end Go.Proofs.Ytloiadhdkgkjkaa
/- Plain law of chapter 16: the sights are the document's. -/
namespace Go.Proofs.Ytloiadhdkgkjkaa
set_option maxHeartbeats 4000000
set_option linter.unusedVariables false
set_option linter.unusedSimpArgs false
theorem stS_hist (first : List Int) (l : List Ev) (W : List Nat) : ∀ j m, m ≤ j → (stS first l W j).2.getD m [] = (stS first l W m).1
  | 0, m, h => by
    have hm0 : m = 0 := by omega
    rw [hm0]
    rfl
  | j + 1, m, h => by
    have hl := (stS_len first l W j).2
    show ((stS first l W j).2 ++ [(stS first l W (j + 1)).1]).getD m [] = _
    rw [List.getD_eq_getElem?_getD]
    by_cases hm : m = j + 1
    · subst hm
      rw [List.getElem?_append_right (by omega), hl, Nat.sub_self]; rfl
    · rw [List.getElem?_append_left (by omega), ← List.getD_eq_getElem?_getD]
      exact stS_hist first l W j m (by omega)
theorem seek_at {cells : Nat → List (Nat × Int)} {L : List (List Int)} {reads : List (Int × Int)} {fr : Nat} : ∀ n, (∀ i, i < n → stoodW cells (fr + i) reads = stoodR (L.getD (fr + i) []) reads) → seekS cells reads fr (fr + n) = atR L reads fr n
  | 0, _ => by
    rw [Nat.add_zero]
    cases fr with
    | zero => rfl
    | succ m => show (if m < m + 1 then (-1 : Int) else _) = -1; rw [if_pos (Nat.lt_succ_self m)]
  | n + 1, h => by
    show (if fr + n < fr then (-1 : Int) else if stoodW cells (fr + n) reads = true then ((fr + n : Nat) : Int) else seekS cells reads fr (fr + n)) = if stoodR (L.getD (fr + n) []) reads = true then ((fr + n : Nat) : Int) else atR L reads fr n
    rw [if_neg (by omega), h n (Nat.lt_succ_self n), seek_at n (fun i hi => h i (by omega))]
theorem seek_all {cells : Nat → List (Nat × Int)} {L : List (List Int)} {reads : List (Int × Int)} {fr up : Nat} (h : ∀ m, m ≤ up → stoodW cells m reads = stoodR (L.getD m []) reads) : seekS cells reads fr (up + 1) = atR L reads fr (up + 1 - fr) := by
  by_cases hf : fr ≤ up + 1
  · have := seek_at (cells := cells) (L := L) (reads := reads) (fr := fr) (up + 1 - fr) (fun i hi => h _ (by omega))
    rw [show fr + (up + 1 - fr) = up + 1 by omega] at this
    exact this
  · rw [show up + 1 - fr = 0 by omega]
    show (if up < fr then (-1 : Int) else _) = -1
    rw [if_pos (by omega)]
theorem rdsK_words {l : List Ev} {a : Nat} (ha : a < l.length) : rdsK l l.length a = wordsR l (tryF l a) := by
  obtain ⟨h1, h2, h3⟩ := tryF_rng ha
  have hth : (tryF l a).th = (evAt l a).th := (tryK_fix l l.length a).1
  unfold rdsK wordsR
  rw [tryK_full, h1, hth]
  by_cases h0 : (tryF l a).how = 0
  · rw [if_pos h0]
    exact rdF_quiet (by omega) fun j g1 g2 => tryK_quiet ha (by rw [tryK_full]; exact h0) (a + j) (by rw [tryK_full]; omega) (by omega)
  · rw [if_neg h0]
theorem encG_congr {x y : Sg} {p q : Int} (h1 : x.tr = y.tr) (h2 : x.fr = y.fr) (h3 : x.upto = y.upto) (h4 : p = q) : encG (x, p) = encG (y, q) := by
  unfold encG
  dsimp only
  rw [h1, h2, h3, h4]
theorem sig_eq {first : List Int} {l : List Ev} (hwf : ∀ e ∈ l, EvWf e) : (sigA first l).map encG = (sigR first l).map encG := by
  unfold sigA sigR
  by_cases hz : (seeOdd first.length l).2 ≠ 0
  · rw [if_pos hz, if_pos hz]
  rw [if_neg hz, if_neg hz]
  have hso := seeOdd_zero (n := first.length) (l := l) (Classical.byContradiction hz)
  obtain ⟨-, hodd, hp, hf⟩ := seeOdd_ok hso
  have hok := okTo_of_odd hodd l.length (Nat.le_refl _)
  have hT := rn_trsF hwf hok
  unfold vAll sightsOf
  rw [hT]
  have hVI := VI.vn (T := trsF l l.length) hwf hok hp hf (Nat.le_refl _)
  have hVJ := VJ.vn (T := trsF l l.length) (first := first) hwf hf (Nat.le_refl _)
  have hVR := VR.all (T := trsF l l.length) hwf hok hp hf l.length (Nat.le_refl _)
  have hSR := SR.all hwf hok hp hf l.length (Nat.le_refl _)
  have hlen : (vn first (trsF l l.length) l l.length).sights.length = (begs l l.length).length := by rw [hVI.sl, hVI.nx, rn_tries hwf hok _ (Nat.le_refl _), List.length_map]
  rw [List.map_map, List.map_map, trsF_begs, List.map_map]
  rw [← trsF_begs]
  apply List.ext_getElem?
  intro q
  rw [List.getElem?_map, List.getElem?_map]
  by_cases hq : q < (begs l l.length).length
  · have hqa := List.getElem?_eq_getElem hq
    generalize (begs l l.length)[q] = a at hqa
    have ha : a < l.length := begs_lt l _ a (List.mem_of_getElem? hqa)
    obtain ⟨x, hx, x1, x2, x3, x4⟩ := hSR q a hqa
    obtain ⟨y1, y2, y3⟩ := tryF_rng ha
    rw [hqa, hx]
    simp only [Option.map_some, Function.comp]
    congr 1
    have hfr : x.fr = frR (wrS l l.length).2 (tryF l a) := by rw [x2]; unfold frR; rw [y1]
    have hup : x.upto = upR (wrS l l.length).2 (tryF l a) := x4 y3
    have hrd : x.reads = wordsR l (tryF l a) := by rw [x3, rdsK_words ha]
    unfold siR
    refine encG_congr x1 hfr hup ?_
    unfold atOf
    rw [hrd, hfr, hup]
    refine seek_all fun m hm => ?_
    have hmW : m ≤ (wrS l l.length).2.length := Nat.le_trans hm (List.countP_le_length ..)
    have hxr := hVJ.rd x (List.mem_of_getElem? hx)
    rw [hrd] at hxr
    unfold stoodW stoodR
    rw [Bool.eq_iff_iff, List.all_eq_true, List.all_eq_true]
    have hpt : ∀ p ∈ wordsR l (tryF l a), atW ((vn first (trsF l l.length) l l.length).cells p.1.toNat) m = ((stS first l (wrS l l.length).2 (wrS l l.length).2.length).2.getD m []).getD p.1.toNat 0 := fun p hpp => by
      obtain ⟨g1, g2⟩ := hxr p hpp
      rw [stS_hist _ _ _ _ _ hmW]
      exact hVR.ce m (by rw [hVR.cm]; exact hmW) _ (by omega)
    constructor
    · intro hh p hpp; rw [← hpt p hpp]; exact hh p hpp
    · intro hh p hpp; rw [hpt p hpp]; exact hh p hpp
  · rw [List.getElem?_eq_none (by rw [hlen]; omega), List.getElem?_eq_none (by omega)]
    rfl
theorem idxG_congr {a b : List (Sg × Int)} (h : a.map encG = b.map encG) : idxG a = idxG b := by
  have h2 : a.map (fun x => x.2) = b.map (fun x => x.2) := by
    have hl : a.length = b.length := by have := congrArg List.length h; simpa using this
    apply List.ext_getElem?
    intro q
    have hq : (a.map encG)[q]? = (b.map encG)[q]? := by rw [h]
    rw [List.getElem?_map, List.getElem?_map] at hq ⊢
    cases ha : a[q]? with
    | none =>
      cases hb : b[q]? with
      | none => rfl
      | some y => rw [ha, hb] at hq; cases hq
    | some x =>
      cases hb : b[q]? with
      | none => rw [ha, hb] at hq; cases hq
      | some y =>
        rw [ha, hb] at hq
        have e : encG x = encG y := by simpa using hq
        unfold encG at e
        simp at e
        simp [e.2.2.2.2.2.2.2.2.2]
  have key : ∀ l : List (Sg × Int), l.findIdx? (fun x => decide (x.2 < 0)) = (l.map (fun x => x.2)).findIdx? (fun z => decide (z < 0)) := fun l => by rw [List.findIdx?_map]; rfl
  unfold idxG
  rw [key a, key b, h2]
theorem chk_eq {first : List Int} {l : List Ev} (hwf : ∀ e ∈ l, EvWf e) : chkA first l = chkR first l := by
  have h := idxG_congr (sig_eq (first := first) hwf)
  unfold chkA chkR
  by_cases hz : (seeOdd first.length l).2 ≠ 0
  · rw [if_pos hz, if_pos hz]
  · rw [if_neg hz, if_neg hz, ← h]
    unfold sigA
    rw [if_neg hz]
end Go.Proofs.Ytloiadhdkgkjkaa
/- OpaqueMeans, plain: what each attempt's sight says of its reads; what never stood there was seen by one that has seen what never was; behind no commit the cells are the first words. -/
namespace Go.Proofs.Ytloiadhdkgkjkaa
set_option maxHeartbeats 1000000
set_option linter.unusedVariables false
set_option linter.unusedSimpArgs false
section
variable {first : List Int} {l : List Ev}
/-- All that holds of what see gathers of a history that can be. -/
structure AllV (first : List Int) (l : List Ev) : Prop where
  vi : VI (vAll first l) (rn l l.length) l.length first.length
  vj : VJ (vAll first l) first.length
  vr : VR first (rn l l.length).tries l l.length
  sr : SR first (rn l l.length).tries l l.length
  bl : (vAll first l).sights.length = (begs l l.length).length
  ok : okTo l l.length
  pl : idxE plainE l < 0
  fa : idxE (farE first.length) l < 0
theorem allV (hwf : ∀ e ∈ l, EvWf e) (hso : seeOdd first.length l = (-1, 0)) : AllV first l := by
  obtain ⟨-, hodd, hp, hf⟩ := seeOdd_ok hso
  have hok := okTo_of_odd hodd l.length (Nat.le_refl _)
  have hT := rn_trsF hwf hok
  have hVI := VI.vn (T := (rn l l.length).tries) (first := first) hwf hok hp hf (Nat.le_refl _)
  refine ⟨hVI, VJ.vn (first := first) hwf hf (Nat.le_refl _), VR.all hwf hok hp hf l.length (Nat.le_refl _), ?_, ?_, hok, hp, hf⟩
  · rw [hT]; exact SR.all hwf hok hp hf l.length (Nat.le_refl _)
  · unfold vAll; rw [hVI.sl, hVI.nx, rn_tries hwf hok _ (Nat.le_refl _), List.length_map]
theorem AllV.beh (h : AllV first l) {n : Nat} (hn : n ≤ (vAll first l).commits) : behindL (vAll first l).cells n first.length = (stS first l (wrS l l.length).2 n).1 := by
  have hl := (stS_len first l (wrS l l.length).2 n).1
  apply List.ext_getElem?
  intro a
  unfold behindL
  rw [List.getElem?_map]
  rcases Nat.lt_or_ge a first.length with ha | ha
  · rw [List.getElem?_range ha, Option.map_some, List.getElem?_eq_getElem (by omega)]
    have := h.vr.ce n hn a ha
    rw [List.getD_eq_getElem?_getD, List.getElem?_eq_getElem (by omega)] at this
    exact congrArg some this
  · rw [List.getElem?_eq_none (by simpa using ha), List.getElem?_eq_none (by omega)]
    rfl
theorem AllV.begin_ (h : AllV first l) : behindL (vAll first l).cells 0 first.length = first := h.beh (Nat.zero_le _)
theorem seekS_lt (cells : Nat → List (Nat × Int)) (reads : List (Int × Int)) (fr : Nat) : ∀ n, seekS cells reads fr n < n
  | 0 => by unfold seekS; omega
  | n + 1 => by
    have := seekS_lt cells reads fr n
    unfold seekS
    repeat' split
    all_goals omega
theorem seekS_yes (cells : Nat → List (Nat × Int)) (reads : List (Int × Int)) (fr : Nat) : ∀ n, 0 ≤ seekS cells reads fr n → (fr : Int) ≤ seekS cells reads fr n ∧ stoodW cells (seekS cells reads fr n).toNat reads = true
  | 0, h => by unfold seekS at h; omega
  | n + 1, h => by
    unfold seekS at h ⊢
    split
    · rename_i h1; rw [if_pos h1] at h; omega
    · rename_i h1
      rw [if_neg h1] at h
      split
      · rename_i h2; exact ⟨by omega, by simpa using h2⟩
      · rename_i h2
        rw [if_neg h2] at h
        exact seekS_yes cells reads fr n h
theorem seekS_none {cells : Nat → List (Nat × Int)} {reads : List (Int × Int)} {fr : Nat} (h : ∀ m, stoodW cells m reads = false) : ∀ n, seekS cells reads fr n = -1
  | 0 => rfl
  | n + 1 => by
    unfold seekS
    rw [h n]
    split
    · rfl
    · rw [if_neg (by decide)]; exact seekS_none h n
theorem atW_mem {l : List (Nat × Int)} (hl : l ≠ []) (n : Nat) : ∃ p ∈ l, p.2 = atW l n := by
  have hpos : 0 < l.length := List.length_pos_iff.2 hl
  have hd := dn_le l n (l.length - 1)
  have hlt : dn l n (l.length - 1) < l.length := by omega
  refine ⟨l[dn l n (l.length - 1)], List.getElem_mem hlt, ?_⟩
  unfold atW
  rw [getD_cell hlt]
theorem stood_seen {cells : Nat → List (Nat × Int)} {reads : List (Int × Int)} {c : Int × Int} (hne : cells c.1.toNat ≠ []) (hc : c ∈ reads) (hs : seenB cells c = false) (m : Nat) : stoodW cells m reads = false := by
  unfold stoodW
  rw [List.all_eq_false]
  refine ⟨c, hc, ?_⟩
  obtain ⟨p, hp, e⟩ := atW_mem hne m
  unfold seenB at hs
  rw [List.any_eq_false] at hs
  have := hs p hp
  rw [e] at this
  exact this
theorem idxG_pos {L : List (Sg × Int)} {x : Sg × Int} (hx : x ∈ L) (h : x.2 < 0) : 0 ≤ idxG L := by
  unfold idxG
  cases hf : L.findIdx? (fun x => decide (x.2 < 0)) with
  | some i => dsimp only; omega
  | none =>
    have := List.findIdx?_eq_none_iff.1 hf x hx
    simp at this
    omega
theorem ddT_mem (l : List (Int × Int)) {c : Int × Int} : ∀ n, c ∈ ddT l n → ∃ j, j < n ∧ c = l.getD j (0, 0)
  | 0, h => by simp [ddT] at h
  | n + 1, h => by
    unfold ddT at h
    split at h
    · rcases List.mem_append.1 h with h | h
      · obtain ⟨j, hj, e⟩ := ddT_mem l n h; exact ⟨j, by omega, e⟩
      · rw [List.mem_singleton] at h; exact ⟨n, by omega, h⟩
    · obtain ⟨j, hj, e⟩ := ddT_mem l n h; exact ⟨j, by omega, e⟩
theorem compC_mem {l : List (Int × Int)} {c : Int × Int} (h : c ∈ compC l) : c ∈ l := by
  obtain ⟨j, hj, e⟩ := ddT_mem l _ h
  rw [e, List.getD_eq_getElem?_getD, List.getElem?_eq_getElem hj]
  exact List.getElem_mem hj
theorem neverL_mem {v : Vw} {c : Int × Int} (h : c ∈ neverL v) : c ∈ nevU v := by
  have := compC_mem h
  unfold srtC at this
  exact List.mem_mergeSort.1 this
theorem AllV.never (h : AllV first l) (hn : neverL (vAll first l) ≠ []) : 0 ≤ idxG (sightsOf (vAll first l)) := by
  obtain ⟨c, hc⟩ := List.exists_mem_of_ne_nil _ hn
  have hu := neverL_mem hc
  unfold nevU at hu
  rw [List.mem_filter, List.mem_flatMap] at hu
  obtain ⟨⟨x, hx, hcx⟩, hs⟩ := hu
  have hs' : seenB (vAll first l).cells c = false := by simpa using hs
  have hr := h.vj.rd x hx c hcx
  have hne := (h.vj.z c.1.toNat (by omega)).1
  refine idxG_pos (x := (x, atOf (vAll first l).cells x)) ?_ ?_
  · unfold sightsOf; exact List.mem_map.2 ⟨x, hx, rfl⟩
  · dsimp only
    unfold atOf
    rw [seekS_none (fun m => stood_seen hne hcx hs' m)]
    decide
/-- What holds of an attempt's sight. -/
structure MS (first : List Int) (l : List Ev) (x : Sg × Int) : Prop where
  la : x.1.tr.last < l.length
  fl : x.1.tr.first ≤ x.1.tr.last + 1
  wd : rdF l x.1.tr.th x.1.tr.first (x.1.tr.last + 1 - x.1.tr.first) = x.1.reads
  rg : ∀ p ∈ x.1.reads, 0 ≤ p.1 ∧ p.1 < (first.length : Int)
  fu : x.1.fr ≤ x.1.upto
  au : x.2 ≤ x.1.upto
  af : 0 ≤ x.2 → (x.1.fr : Int) ≤ x.2 ∧ x.2.toNat ∈ togK (vAll first l).cells x.1.reads ((vAll first l).commits + 1)
  em : x.1.reads = [] → x.2 = x.1.upto
theorem AllV.ms (h : AllV first l) : ∀ x ∈ sightsOf (vAll first l), MS first l x := by
  intro z hz
  unfold sightsOf at hz
  obtain ⟨x, hx, rfl⟩ := List.mem_map.1 hz
  obtain ⟨q, hq, hqx⟩ := List.mem_iff_getElem.1 hx
  have hqb : q < (begs l l.length).length := by rw [← h.bl]; exact hq
  have hqa := List.getElem?_eq_getElem hqb
  generalize (begs l l.length)[q] = a at hqa
  have ha : a < l.length := begs_lt l _ a (List.mem_of_getElem? hqa)
  obtain ⟨x', hx', x1, x2, x3, x4⟩ := h.sr q a hqa
  have hq2 : (vAll first l).sights[q]? = some x := by rw [List.getElem?_eq_getElem hq, hqx]
  have : x' = x := by
    have e : (vAll first l).sights[q]? = some x' := hx'
    rw [hq2] at e
    injection e with e
    exact e.symm
  subst this
  obtain ⟨y1, y2, y3⟩ := tryF_rng ha
  have hup := x4 y3
  have hrd : x'.reads = wordsR l (tryF l a) := by rw [x3, rdsK_words ha]
  have hfu : x'.fr ≤ x'.upto := by
    rw [x2, hup]
    exact List.countP_mono_left fun c _ hc => by simp at hc ⊢; omega
  refine ⟨?_, ?_, ?_, h.vj.rd x' hx, hfu, ?_, ?_, ?_⟩
  · dsimp only; rw [x1]; exact y3
  · dsimp only; rw [x1]; omega
  · dsimp only; rw [x1, hrd]; rfl
  · have := seekS_lt (vAll first l).cells x'.reads x'.fr (x'.upto + 1)
    show seekS (vAll first l).cells x'.reads x'.fr (x'.upto + 1) ≤ (x'.upto : Int)
    omega
  · intro h0
    have h1 := seekS_yes (vAll first l).cells x'.reads x'.fr (x'.upto + 1) h0
    refine ⟨h1.1, ?_⟩
    have h2 : atOf (vAll first l).cells x' < ((x'.upto + 1 : Nat) : Int) := seekS_lt (vAll first l).cells x'.reads x'.fr (x'.upto + 1)
    have h3 := (h.vj.up x' hx).2
    unfold togK
    rw [List.mem_filter, List.mem_range]
    refine ⟨?_, h1.2⟩
    show (atOf (vAll first l).cells x').toNat < (vAll first l).commits + 1
    omega
  · intro he
    show atOf _ _ = _
    unfold atOf seekS
    dsimp only at he
    rw [if_neg (by omega), he, if_pos (by rfl)]
end
end Go.Proofs.Ytloiadhdkgkjkaa
/- The document's answer for chapter 16: Behind, Together by contract: they answer as the program does. -/
namespace Go.Proofs.Ytloiadhdkgkjkaa
open Go.RowKit
set_option maxHeartbeats 40000000
set_option linter.unusedVariables false
set_option linter.unusedSimpArgs false
theorem rpre {first : List Int} {l : List Ev} (hwf : ∀ e ∈ l, EvWf e) (hso : seeOdd first.length l = (-1, 0)) : first.length ≤ 65536 ∧ (∀ k, k < l.length → 0 ≤ (evAt l k).th ∧ (evAt l k).th < 8) ∧ (∀ k, k < l.length → (evAt l k).kd = 3 → 0 ≤ (evAt l k).ad ∧ (evAt l k).ad < (first.length : Int)) ∧ (∀ k, k < l.length → (evAt l k).kd = 2 → 0 ≤ (evAt l k).ad ∧ (evAt l k).ad < (first.length : Int)) := by
  obtain ⟨⟨hf0, hf6⟩, hodd, hpl, hfar⟩ := seeOdd_ok hso
  have hok := okTo_of_odd hodd l.length (Nat.le_refl _)
  have hev : ∀ k, k < l.length → EvWf (evAt l k) ∧ fmd (evAt l k) = true ∧ farE first.length (evAt l k) = false := fun k hk => by
    have he := evAt_get hk
    exact ⟨by rw [he]; exact hwf _ (List.getElem_mem hk), (wrong_zero (hok k hk)).1, by rw [he]; exact idxE_neg hfar hk⟩
  refine ⟨hf6, fun k hk => (fmd_bd (hev k hk).2.1).1, fun k hk h3 => ?_, fun k hk h3 => ?_⟩
  all_goals
    obtain ⟨h1, -, h2⟩ := hev k hk
    unfold farE at h2
    rw [h3] at h2
    simp at h2
    exact ⟨h1.2.2.1.1, h2⟩
/-- The document's cells behind so many commits, from a history that can be. -/
def stA (first : List Int) (l : List Ev) : List (List Int) := (stS first l (wrS l l.length).2 (wrS l l.length).2.length).2
theorem stA_len (first : List Int) (l : List Ev) : (stA first l).length = (wrS l l.length).2.length + 1 := (stS_len first l (wrS l l.length).2 (wrS l l.length).2.length).2
theorem stA_at {first : List Int} {l : List Ev} (h : AllV first l) {n : Nat} (hn : n < (stA first l).length) : (stA first l).getD n [] = behindL (vAll first l).cells n first.length := by
  rw [stA_len] at hn
  have hc : (vAll first l).commits = (wrS l l.length).2.length := h.vr.cm
  unfold stA
  rw [stS_hist _ _ _ _ _ (show n ≤ (wrS l l.length).2.length by omega), h.beh (by omega)]
theorem behindL_get {cells : Nat → List (Nat × Int)} {n size a : Nat} (ha : a < size) : (behindL cells n size).getD a 0 = atW (cells a) n := by
  unfold behindL
  rw [List.getD_eq_getElem?_getD, List.getElem?_map, List.getElem?_range ha]
  rfl
theorem stoodR_eq {first : List Int} {l : List Ev} (h : AllV first l) {n : Nat} (hn : n < (stA first l).length) {words : List (Int × Int)} (hw : ∀ p ∈ words, 0 ≤ p.1 ∧ p.1 < (first.length : Int)) : stoodR ((stA first l).getD n []) words = stoodW (vAll first l).cells n words := by
  rw [stA_at h hn]
  unfold stoodR stoodW
  rw [Bool.eq_iff_iff, List.all_eq_true, List.all_eq_true]
  constructor
  · intro hh p hp
    have := hh p hp
    obtain ⟨g1, g2⟩ := hw p hp
    rwa [behindL_get (by omega)] at this
  · intro hh p hp
    have := hh p hp
    obtain ⟨g1, g2⟩ := hw p hp
    rwa [behindL_get (by omega)]
set_option maxRecDepth 100000 in
theorem rbehind16_b {w : World} {Fv : Value} {A : Option Addr} {cp : Nat} {first : List Int} {l : List Ev} (n : Int) (hF : Lies w Fv first) (hL : LiesV w (.slice A l.length cp) l) (hwf : ∀ e ∈ l, EvWf e) (hsz : l.length * 48 + 480 ≤ 140737488355328) (hfl : first.length ≤ 9223372036854775807) :
    Calls Try.prog 16 #[Fv, .slice A l.length cp, .int .i64 n] w fun x w' => Below w.heap.size w w' ∧ ∃ ov, x = .returned (.tuple #[ov, .agg #[.int .i64 (behA first l n).1.1, .int .i64 (behA first l n).1.2]]) ∧ Wl w' ov (behA first l n).2 ∧ ∀ q, own ov q → w.heap.size ≤ q := by
  obtain ⟨Af, cf, rfl, -⟩ := (show ∃ A cp, Fv = .slice A first.length cp ∧ True from by obtain ⟨A, cp, h1, _⟩ := hF; exact ⟨A, cp, h1, trivial⟩)
  have hlen : (l.length : Int) ≤ 9223372036854775807 := by omega
  have hR1 := Blk.new w 28 #[.int .i64 0, .int .i64 0]
  have hb1 := (Below.refl w.heap.size w).alloc (Nat.le_refl _) (.cells #[.int .i64 0, .int .i64 0] 28)
  have C1 := Lib.hid (rWrong_b (hF.below hb1) (hL.below hb1 (Nat.le_refl _)) hwf hsz hfl)
  obtain ⟨o1, ho1⟩ : ∃ o1, (seeOdd first.length l).1 = o1 := ⟨_, rfl⟩
  obtain ⟨o2, ho2⟩ : ∃ o2, (seeOdd first.length l).2 = o2 := ⟨_, rfl⟩
  rw [ho1, ho2] at C1
  replace ho1 := Lib.hid ho1
  replace ho2 := Lib.hid ho2
  replace hR1 := Lib.hid hR1
  replace hb1 := Lib.hid hb1
  replace hL := Lib.hid hL
  replace hF := Lib.hid hF
  go_enter Try.func16, Try.ntmps16
  go_wp2_with fail
  refine C1.out.mono ?_
  rintro _ w2 ⟨rfl, hb2⟩
  have hR2 := hR1.out.below hb2 hR1.out.lt
  have hbw2 := hb1.out.trans (hb2.mono hb1.out.size)
  obtain ⟨w3, hw3⟩ : ∃ w3, w3 = w2.alloc (.cells #[.int .i64 o1, .int .i64 o2] 28) := ⟨_, rfl⟩
  have hR3 : Hid (Blk w3 w.heap.size 28 #[.int .i64 0, .int .i64 0]) := Lib.hid (by rw [hw3]; exact hR2.alloc _)
  have hO3 : Hid (Blk w3 w2.heap.size 28 #[.int .i64 o1, .int .i64 o2]) := Lib.hid (by rw [hw3]; exact Blk.new _ _ _)
  have hb3 : Hid (Below w.heap.size w w3) := Lib.hid (by rw [hw3]; exact hbw2.alloc hbw2.size _)
  have hne : w.heap.size ≠ w2.heap.size := Nat.ne_of_lt hR2.lt
  have hlt2 : Hid (w.heap.size < w2.heap.size) := Lib.hid hR2.lt
  subst hw3
  have x0 := (hO3.out.cell 0).trans (show _ = some (.int .i64 o1) from rfl)
  have x1 := (hO3.out.cell 1).trans (show _ = some (.int .i64 o2) from rfl)
  clear hb2 hR2 hbw2 C1 hb1 hR1
  by_cases hz : o2 = 0
  case neg =>
    have hz1 : (o2 != 0) = true := by simpa using hz
    have hzz : Hid ((seeOdd first.length l).2 ≠ 0) := Lib.hid (by rw [ho2.out]; exact hz)
    have r0 := (hR3.out.cell 0).trans (show _ = some (.int .i64 0) from rfl)
    have r1 := (hR3.out.cell 1).trans (show _ = some (.int .i64 0) from rfl)
    have f0 := hR3.out.frozen 0
    have f1 := hR3.out.frozen 1
    replace hz := Lib.hid hz
    go_wp2
    refine wp_region_mixH (fun _ => True) [1, 3, 2] (List.range 3) (by kernel_rfl) (by kernel_rfl) (fun _ _ h => h) trivial ?_
    (repeat ((first | refine wpMixH_pure rfl rfl (fun K hK => ?_) | refine wpMixH_loc rfl rfl (fun K hK => ?_) | refine wpMixH_any rfl rfl (fun K hK => ?_)); go_simp; refine hK _ _ ?_; clear hK K))
    refine wpMixH_loud rfl rfl (fun n1 K hK => ?_)
    go_wp2
    refine hK _ _ (fun _ => trivial) ?_; clear hK K
    refine wpMixH_nil (fun n2 => ?_)
    go_wp2
    refine bodyPost_ret (v := .tuple #[.slice none 0 0, .agg #[.int .i64 o1, .int .i64 o2]]) (by simp [results, Try.results16, go_sem, r0, r1, f0, f1]) rfl ⟨below_drewNs (((below_drewNs hb3.out _).setCell (Nat.le_refl _) _).setCell (Nat.le_refl _) _) _, _, by unfold behA; rw [if_pos hzz.out]; rw [ho1.out, ho2.out], by unfold behA; rw [if_pos hzz.out]; exact Wl.nil _, fun q hq => absurd hq (no_own_nil q)⟩
  have hso := seeOdd_zero (n := first.length) (l := l) (by rw [ho2.out]; exact hz)
  obtain rfl : o1 = -1 := by rw [← ho1.out, hso]
  subst hz
  obtain ⟨hf6, hth, had3, had2⟩ := rpre hwf hso
  have HV := allV hwf hso
  have hz0 : Hid (¬ (seeOdd first.length l).2 ≠ 0) := Lib.hid (by rw [ho2.out]; simp)
  have CS := Lib.hid (fun W (h1 : Lies W (.slice Af first.length cf) first) (h2 : LiesV W (.slice A l.length cp) l) => rstates_b h1 h2 hth had3 hf6)
  have hWn := wrS_len l l.length
  have hSl := stA_len first l
  have hcm : (vAll first l).commits = (wrS l l.length).2.length := HV.vr.cm
  have hLl : Hid (∀ i, i < (stA first l).length → ((stA first l).getD i []).length = first.length) := Lib.hid (fun i hi => by rw [List.getD_eq_getElem?_getD, List.getElem?_eq_getElem hi]; exact stS_all _ _ _ _ _ (List.getElem_mem hi))
  rw [show (stS first l (wrS l l.length).2 (wrS l l.length).2.length).2 = stA first l from rfl] at CS
  have hSn : Hid ((stA first l).length ≤ 4611686018427387904) := Lib.hid (by omega)
  have hSc : Hid ((stA first l).length = (vAll first l).commits + 1) := Lib.hid (by omega)
  replace HV := Lib.hid HV
  clear hWn hSl hcm hth had3
  go_wp2_with fail
  refine (CS.out _ (hF.out.below hb3.out) (hL.out.below hb3.out (Nat.le_refl _))).mono ?_
  rintro _ w4 ⟨hb4, ovS, vs, rfl, hT4⟩
  have hbw4 := Lib.hid (hb3.out.trans (hb4.mono hb3.out.size))
  obtain ⟨AS, cS, rfl, -⟩ := hT4.sl.shape
  have hvl := hT4.len
  have hR4 := hR3.out.below hb4 hR3.out.lt
  have hO4 := hO3.out.below hb4 hO3.out.lt
  have r0 := (hR4.cell 0).trans (show _ = some (.int .i64 0) from rfl)
  have r1 := (hR4.cell 1).trans (show _ = some (.int .i64 0) from rfl)
  have f0 := hR4.frozen 0
  have f1 := hR4.frozen 1
  have y0 := (hO4.cell 0).trans (show _ = some (.int .i64 (-1)) from rfl)
  have y1 := (hO4.cell 1).trans (show _ = some (.int .i64 0) from rfl)
  have hln75 : ∀ (W : World) (A : Option Addr) (n c : Nat) (ty : TypeId), (Builtin.len_ #[75] ty #[.slice A n c]).run Try.prog W = .ok (.int .i64 n) W := fun W A n c ty => by simp [Builtin.len_, run_underlying Try.underlying75, goInt]
  clear x0 x1 CS hb4
  have hbad : Hid ((n < 0 ∨ ((vAll first l).commits : Int) < n) → behA first l n = ((-1, 2), [])) := Lib.hid fun h => by unfold behA; rw [if_neg hz0.out, if_pos h]
  have hok : Hid (∀ k : Nat, n = (k : Int) → k < (stA first l).length → behA first l n = ((-1, 0), (stA first l).getD k [])) := Lib.hid fun k e hk => by
    have := hSc.out
    unfold behA
    rw [if_neg hz0.out, if_neg (by omega), e, Int.toNat_natCast, stA_at HV.out hk]
  rw [hvl]
  rw [← hvl] at hSn
  replace hT4 := Lib.hid hT4
  replace hSn := Lib.hid hSn.out
  replace hvl := Lib.hid hvl
  have CW := Lib.hid (fun W => rwrong_b (-1) 2 (by decide) W)
  by_cases hn0 : n < 0
  · have e := Lib.hid (hbad.out (.inl hn0))
    go_wp2_with fail
    refine (CW.out _).mono ?_
    rintro _ w5 ⟨rfl, hb5⟩
    have hR5 := hR4.below hb5 hR4.lt
    have hbw5 := Lib.hid (hbw4.out.trans (hb5.mono hbw4.out.size))
    have r0 := (hR5.cell 0).trans (show _ = some (.int .i64 0) from rfl)
    have r1 := (hR5.cell 1).trans (show _ = some (.int .i64 0) from rfl)
    have f0 := hR5.frozen 0
    have f1 := hR5.frozen 1
    clear hb5 hR5
    go_wp2
    refine bodyPost_ret (v := .tuple #[.slice none 0 0, .agg #[.int .i64 (-1), .int .i64 2]]) (by simp [results, Try.results16, go_sem, r0, r1, f0, f1]) rfl ⟨(hbw5.out.setCell (Nat.le_refl _) _).setCell (Nat.le_refl _) _, _, by rw [e.out], by rw [e.out]; exact Wl.nil _, fun q hq => absurd hq (no_own_nil q)⟩
  obtain ⟨k, rfl⟩ := Int.eq_ofNat_of_zero_le (show 0 ≤ n by omega)
  by_cases hk : k < (stA first l).length
  case neg =>
    have e := Lib.hid (hbad.out (.inr (by have := hSc.out; omega)))
    have hk' : ¬ (k : Int) < ((stA first l).length : Int) := by omega
    have hk2 : ((stA first l).length : Int) ≤ (k : Int) := by omega
    go_wp2_with fail
    refine (CW.out _).mono ?_
    rintro _ w5 ⟨rfl, hb5⟩
    have hR5 := hR4.below hb5 hR4.lt
    have hbw5 := Lib.hid (hbw4.out.trans (hb5.mono hbw4.out.size))
    have r0 := (hR5.cell 0).trans (show _ = some (.int .i64 0) from rfl)
    have r1 := (hR5.cell 1).trans (show _ = some (.int .i64 0) from rfl)
    have f0 := hR5.frozen 0
    have f1 := hR5.frozen 1
    clear hb5 hR5
    go_wp2
    refine bodyPost_ret (v := .tuple #[.slice none 0 0, .agg #[.int .i64 (-1), .int .i64 2]]) (by simp [results, Try.results16, go_sem, r0, r1, f0, f1]) rfl ⟨(hbw5.out.setCell (Nat.le_refl _) _).setCell (Nat.le_refl _) _, _, by rw [e.out], by rw [e.out]; exact Wl.nil _, fun q hq => absurd hq (no_own_nil q)⟩
  have e := Lib.hid (hok.out k rfl hk)
  have hk' : (k : Int) < ((stA first l).length : Int) := by omega
  have hk2 : ¬ ((stA first l).length : Int) ≤ (k : Int) := by omega
  have hkv : k < vs.length := by rw [hvl.out]; exact hk
  obtain ⟨gS, oS, e1, -, hcc⟩ := hT4.out.sl.cell encW_len (by decide) hkv
  subst e1
  have s0 := (hcc k hkv 0 (by decide)).1
  have hWk := hT4.out.at_ k hkv
  have hgk := hT4.out.gev vs[k] (List.getElem_mem hkv)
  generalize vs[k] = v at *
  obtain ⟨vA, vn, vc⟩ := v
  simp only [encW, List.getElem?_cons_zero, Nat.add_zero, Nat.mul_one] at s0
  have hnR : ¬ own (headV (vA, vn, vc)) w.heap.size := fun h => by have h1 := hgk _ h; rw [World.size_alloc] at h1; have := hlt2.out; omega
  have hfin : Hid (∀ j jj, Wl ((((w4.drewN j).setCell ⟨w.heap.size, 0, none⟩ (.int .i64 (-1))).setCell ⟨w.heap.size, 1, none⟩ (.int .i64 0)).drewN jj) (.slice vA vn vc) ((stA first l).getD k [])) := Lib.hid (fun j jj => hWk.keep fun q hq => by
    have hqn : q ≠ w.heap.size := fun e => hnR (by rw [← e]; exact hq)
    show ((((w4.drewN j).setCell ⟨w.heap.size, 0, none⟩ (.int .i64 (-1))).setCell ⟨w.heap.size, 1, none⟩ (.int .i64 0))).heap[q]? = w4.heap[q]?
    rw [Below.heap_setCell _ _ _ _ hqn, Below.heap_setCell _ _ _ _ hqn]
    rfl)
  have hge : Hid (∀ q, own (.slice vA vn vc) q → w.heap.size ≤ q) := Lib.hid fun q hq => by have h1 := hgk q hq; rw [World.size_alloc] at h1; have := hlt2.out; omega
  clear hcc hWk hgk hnR hR4 hO4 hkv
  go_wp2
  refine wp_region_mixH (fun _ => True) [3, 3, 3, 1, 1, 3, 2] (List.range 7) (by kernel_rfl) (by kernel_rfl) (fun _ _ h => h) trivial ?_
  (repeat ((first | refine wpMixH_pure rfl rfl (fun K hK => ?_) | refine wpMixH_loc rfl rfl (fun K hK => ?_) | refine wpMixH_any rfl rfl (fun K hK => ?_)); go_simp; refine hK _ _ ?_; clear hK K))
  refine wpMixH_loud rfl rfl (fun n1 K hK => ?_)
  go_wp2
  refine hK _ _ (fun _ => trivial) ?_; clear hK K
  refine wpMixH_nil (fun n2 => ?_)
  go_wp2
  refine bodyPost_ret (v := .tuple #[.slice vA vn vc, .agg #[.int .i64 (-1), .int .i64 0]]) (by simp [results, Try.results16, go_sem, r0, r1, f0, f1]) rfl ⟨below_drewNs (((below_drewNs hbw4.out _).setCell (Nat.le_refl _) _).setCell (Nat.le_refl _) _) _, _, by rw [e.out], by rw [e.out]; exact hfin.out _ _, hge.out⟩
set_option maxRecDepth 100000 in
theorem rtogether16_b {w : World} {Fv : Value} {A Aw : Option Addr} {cp cw : Nat} {first : List Int} {l : List Ev} {words : List (Int × Int)} (hF : Lies w Fv first) (hL : LiesV w (.slice A l.length cp) l) (hwf : ∀ e ∈ l, EvWf e) (hsz : l.length * 48 + 480 ≤ 140737488355328) (hfl : first.length ≤ 9223372036854775807)
    (hW : LiesP w (.slice Aw words.length cw) words) (hwl : words.length ≤ 4611686018427387904) (hwb : ∀ p ∈ words, 0 ≤ p.1) :
    Calls Try.prog 18 #[Fv, .slice A l.length cp, .slice Aw words.length cw] w fun x w' => Below w.heap.size w w' ∧ ∃ ov, x = .returned (.tuple #[ov, .agg #[.int .i64 (togA first l words).1.1, .int .i64 (togA first l words).1.2]]) ∧ Sl 3 1 encI w' ov (togA first l words).2 := by
  obtain ⟨Af, cf, rfl, -⟩ := (show ∃ A cp, Fv = .slice A first.length cp ∧ True from by obtain ⟨A, cp, h1, _⟩ := hF; exact ⟨A, cp, h1, trivial⟩)
  have hlen : (l.length : Int) ≤ 9223372036854775807 := by omega
  have hR1 := Blk.new w 28 #[.int .i64 0, .int .i64 0]
  have hb1 := (Below.refl w.heap.size w).alloc (Nat.le_refl _) (.cells #[.int .i64 0, .int .i64 0] 28)
  have C1 := Lib.hid (rWrong_b (hF.below hb1) (hL.below hb1 (Nat.le_refl _)) hwf hsz hfl)
  obtain ⟨o1, ho1⟩ : ∃ o1, (seeOdd first.length l).1 = o1 := ⟨_, rfl⟩
  obtain ⟨o2, ho2⟩ : ∃ o2, (seeOdd first.length l).2 = o2 := ⟨_, rfl⟩
  rw [ho1, ho2] at C1
  replace ho1 := Lib.hid ho1
  replace ho2 := Lib.hid ho2
  replace hR1 := Lib.hid hR1
  replace hb1 := Lib.hid hb1
  replace hL := Lib.hid hL
  replace hF := Lib.hid hF
  replace hW := Lib.hid hW
  replace hwb := Lib.hid hwb
  go_enter Try.func18, Try.ntmps18
  go_wp2_with fail
  refine C1.out.mono ?_
  rintro _ w2 ⟨rfl, hb2⟩
  have hR2 := hR1.out.below hb2 hR1.out.lt
  have hbw2 := hb1.out.trans (hb2.mono hb1.out.size)
  obtain ⟨w3, hw3⟩ : ∃ w3, w3 = w2.alloc (.cells #[.int .i64 o1, .int .i64 o2] 28) := ⟨_, rfl⟩
  have hR3 : Hid (Blk w3 w.heap.size 28 #[.int .i64 0, .int .i64 0]) := Lib.hid (by rw [hw3]; exact hR2.alloc _)
  have hO3 : Hid (Blk w3 w2.heap.size 28 #[.int .i64 o1, .int .i64 o2]) := Lib.hid (by rw [hw3]; exact Blk.new _ _ _)
  have hb3 : Hid (Below w.heap.size w w3) := Lib.hid (by rw [hw3]; exact hbw2.alloc hbw2.size _)
  have hne : w.heap.size ≠ w2.heap.size := Nat.ne_of_lt hR2.lt
  have hlt2 : Hid (w.heap.size < w2.heap.size) := Lib.hid hR2.lt
  subst hw3
  have x0 := (hO3.out.cell 0).trans (show _ = some (.int .i64 o1) from rfl)
  have x1 := (hO3.out.cell 1).trans (show _ = some (.int .i64 o2) from rfl)
  clear hb2 hR2 hbw2 C1 hb1 hR1
  by_cases hz : o2 = 0
  case neg =>
    have hz1 : (o2 != 0) = true := by simpa using hz
    have hzz : Hid ((seeOdd first.length l).2 ≠ 0) := Lib.hid (by rw [ho2.out]; exact hz)
    have r0 := (hR3.out.cell 0).trans (show _ = some (.int .i64 0) from rfl)
    have r1 := (hR3.out.cell 1).trans (show _ = some (.int .i64 0) from rfl)
    have f0 := hR3.out.frozen 0
    have f1 := hR3.out.frozen 1
    replace hz := Lib.hid hz
    go_wp2
    refine wp_region_mixH (fun _ => True) [1, 3, 2] (List.range 3) (by kernel_rfl) (by kernel_rfl) (fun _ _ h => h) trivial ?_
    (repeat ((first | refine wpMixH_pure rfl rfl (fun K hK => ?_) | refine wpMixH_loc rfl rfl (fun K hK => ?_) | refine wpMixH_any rfl rfl (fun K hK => ?_)); go_simp; refine hK _ _ ?_; clear hK K))
    refine wpMixH_loud rfl rfl (fun n1 K hK => ?_)
    go_wp2
    refine hK _ _ (fun _ => trivial) ?_; clear hK K
    refine wpMixH_nil (fun n2 => ?_)
    go_wp2
    refine bodyPost_ret (v := .tuple #[.slice none 0 0, .agg #[.int .i64 o1, .int .i64 o2]]) (by simp [results, Try.results18, go_sem, r0, r1, f0, f1]) rfl ⟨below_drewNs (((below_drewNs hb3.out _).setCell (Nat.le_refl _) _).setCell (Nat.le_refl _) _) _, _, by unfold togA; rw [if_pos hzz.out]; rw [ho1.out, ho2.out], by unfold togA; rw [if_pos hzz.out]; exact Sl.nil _⟩
  have hso := seeOdd_zero (n := first.length) (l := l) (by rw [ho2.out]; exact hz)
  obtain rfl : o1 = -1 := by rw [← ho1.out, hso]
  subst hz
  obtain ⟨hf6, hth, had3, had2⟩ := rpre hwf hso
  have HV := allV hwf hso
  have hz0 : Hid (¬ (seeOdd first.length l).2 ≠ 0) := Lib.hid (by rw [ho2.out]; simp)
  have CS := Lib.hid (fun W (h1 : Lies W (.slice Af first.length cf) first) (h2 : LiesV W (.slice A l.length cp) l) => rstates_b h1 h2 hth had3 hf6)
  have hWn := wrS_len l l.length
  have hSl := stA_len first l
  have hcm : (vAll first l).commits = (wrS l l.length).2.length := HV.vr.cm
  have hLl : Hid (∀ i, i < (stA first l).length → ((stA first l).getD i []).length = first.length) := Lib.hid (fun i hi => by rw [List.getD_eq_getElem?_getD, List.getElem?_eq_getElem hi]; exact stS_all _ _ _ _ _ (List.getElem_mem hi))
  rw [show (stS first l (wrS l l.length).2 (wrS l l.length).2.length).2 = stA first l from rfl] at CS
  have hSn : Hid ((stA first l).length ≤ 4611686018427387904) := Lib.hid (by omega)
  have hSc : Hid ((stA first l).length = (vAll first l).commits + 1) := Lib.hid (by omega)
  replace HV := Lib.hid HV
  clear hWn hSl hcm hth had3
  have hwl' : Hid ((words.length : Int) ≤ 4611686018427387904) := Lib.hid (by omega)
  have hu64 := IntWalk.u64_in (n := (first.length : Int)) (by omega)
  have htogA : Hid (togA first l words = if words.any (fun c => decide (c.1 ≥ (first.length : Int))) = true then ((-1, 4), []) else ((-1, 0), togK (vAll first l).cells words ((vAll first l).commits + 1))) := Lib.hid (by unfold togA; rw [if_neg hz0.out])
  have CW := Lib.hid (fun W => rwrong_b (-1) 4 (by decide) W)
  have hln75 : ∀ (W : World) (A : Option Addr) (n c : Nat) (ty : TypeId), (Builtin.len_ #[75] ty #[.slice A n c]).run Try.prog W = .ok (.int .i64 n) W := fun W A n c ty => by simp [Builtin.len_, run_underlying Try.underlying75, goInt]
  go_wp2_with fail
  go_loopg [9] words.length (fun gk c9 wr => ∃ j : Nat, j + gk = words.length ∧ c9 = .int .i64 (j : Int) ∧ wr = (w2.alloc (.cells #[.int .i64 (-1), .int .i64 0] 28)) ∧ Hid (∀ p ∈ words.take j, decide (p.1 ≥ (first.length : Int)) = false))
  case atStart => exact ⟨0, by omega, rfl, rfl, Lib.hid (by simp)⟩
  case round =>
    obtain ⟨j, hjg, rfl, rfl, hall⟩ := hrel
    cases gk with
    | succ g0 =>
      have hjl : j < words.length := by omega
      have hjl' : (j : Int) < (words.length : Int) := by omega
      obtain ⟨A', c', e1, hcc⟩ := hW.out.below hb3.out
      injection e1 with e1 e2 e3
      subst e1 e3
      obtain ⟨g, o, e4, -, p0, -⟩ := hcc j hjl
      subst e4
      have hpm : words[j] ∈ words := List.getElem_mem hjl
      have htk : words.take (j + 1) = words.take j ++ [words[j]] := List.take_succ_eq_append_getElem hjl
      have w1 := IntWalk.i64_in (n := (j : Int) + 1) (by have := hwl'.out; omega)
      generalize words[j] = c at *
      obtain ⟨ca, cb⟩ := c
      dsimp only at p0
      replace htk := Lib.hid htk
      replace hpm := Lib.hid hpm
      clear hcc e2
      by_cases hfar : (first.length : Int) ≤ ca
      · have hany : words.any (fun c => decide (c.1 ≥ (first.length : Int))) = true := List.any_eq_true.2 ⟨_, hpm.out, by simpa using hfar⟩
        have e := Lib.hid (show togA first l words = ((-1, 4), []) by rw [htogA.out, if_pos hany])
        replace hany := Lib.hid hany
        go_wp2_with fail
        refine (CW.out _).mono ?_
        rintro _ w5 ⟨rfl, hb5⟩
        have hR5 := hR3.out.below hb5 hR3.out.lt
        have hbw5 := Lib.hid (hb3.out.trans (hb5.mono hb3.out.size))
        have r0 := (hR5.cell 0).trans (show _ = some (.int .i64 0) from rfl)
        have r1 := (hR5.cell 1).trans (show _ = some (.int .i64 0) from rfl)
        have f0 := hR5.frozen 0
        have f1 := hR5.frozen 1
        clear hb5 hR5
        go_wp2
        refine bodyPost_ret (v := .tuple #[.slice none 0 0, .agg #[.int .i64 (-1), .int .i64 4]]) (by simp [results, Try.results18, go_sem, r0, r1, f0, f1]) rfl ⟨(hbw5.out.setCell (Nat.le_refl _) _).setCell (Nat.le_refl _) _, _, by rw [e.out], by rw [e.out]; exact Sl.nil _⟩
      · have hf2 : Hid (decide (ca ≥ (first.length : Int)) = false) := Lib.hid (decide_eq_false (by omega))
        have hf3 : ca < (first.length : Int) := by omega
        go_wp2
        go_roundg g0
        case measure => omega
        case rel => exact ⟨j + 1, by omega, by go_num, by trivial, Lib.hid fun p hp => by
          rw [htk.out, List.mem_append, List.mem_singleton] at hp
          rcases hp with hp | hp
          · exact hall.out p hp
          · subst hp; exact hf2.out⟩
    | zero =>
      have hjz : j = words.length := by omega
      subst hjz
      have hwl2 := hwl'.out
      have hany : words.any (fun c => decide (c.1 ≥ (first.length : Int))) = false := by
        rw [List.any_eq_false]
        intro p hp
        have := hall.out p (by rw [List.take_length]; exact hp)
        rw [this]; decide
      have hrg : Hid (∀ p ∈ words, 0 ≤ p.1 ∧ p.1 < (first.length : Int)) := Lib.hid fun p hp => ⟨hwb.out p hp, by
        have := List.any_eq_false.1 hany p hp
        simpa using this⟩
      have e := Lib.hid (show togA first l words = ((-1, 0), togK (vAll first l).cells words ((vAll first l).commits + 1)) by rw [htogA.out, if_neg (by rw [hany]; decide)])
      clear hall hany htogA
      go_wp2_with fail
      refine (CS.out _ (hF.out.below hb3.out) (hL.out.below hb3.out (Nat.le_refl _))).mono ?_
      rintro _ w4 ⟨hb4, ovS, vs, rfl, hT4⟩
      obtain ⟨AS, cS, rfl, -⟩ := hT4.sl.shape
      have hvl := hT4.len
      rw [hvl]
      have hR4 := Lib.hid (hR3.out.below hb4 hR3.out.lt)
      have hO4 := Lib.hid (hO3.out.below hb4 hO3.out.lt)
      have hW4 := Lib.hid ((hW.out.below hb3.out).below hb4)
      have hbw4 := Lib.hid (hb3.out.trans (hb4.mono hb3.out.size))
      replace hT4 := Lib.hid hT4
      replace hvl := Lib.hid hvl
      have hlt4 := Lib.hid (Nat.lt_of_lt_of_le hlt2.out (Nat.le_trans (Nat.le_of_lt (by rw [World.size_alloc]; omega)) hb4.size))
      clear hb4 CS x0 x1
      go_wp2
      have hsn := hSn.out
      go_loopg [11, 12] (stA first l).length (fun gk c11 c12 wr => ∃ k : Nat, k + gk = (stA first l).length ∧ c12 = .int .i64 (k : Int) ∧ Hid (Sl 3 1 encI wr c11 (togK (vAll first l).cells words k)) ∧ Hid (∀ q, own c11 q → w4.heap.size ≤ q) ∧ Hid (Below w4.heap.size w4 wr))
      case atStart => exact ⟨0, by omega, rfl, Lib.hid (Sl.nil _), Lib.hid (fun q hq => absurd hq (no_own_nil q)), Lib.hid (Below.refl _ _)⟩
      case round =>
        obtain ⟨k, hkg, rfl, hS, hown, hbl⟩ := hrel
        cases gk with
        | zero =>
          have hkz : k = (stA first l).length := by omega
          have hk' : ¬ (k : Int) < ((stA first l).length : Int) := by omega
          subst hkz
          have hR7 := hR4.out.below hbl.out hR4.out.lt
          have hO7 := hO4.out.below hbl.out hO4.out.lt
          have r0 := (hR7.cell 0).trans (show _ = some (.int .i64 0) from rfl)
          have r1 := (hR7.cell 1).trans (show _ = some (.int .i64 0) from rfl)
          have f0 := hR7.frozen 0
          have f1 := hR7.frozen 1
          have o0 := (hO7.cell 0).trans (show _ = some (.int .i64 (-1)) from rfl)
          have o1 := (hO7.cell 1).trans (show _ = some (.int .i64 0) from rfl)
          have hnR : ¬ own u11 w.heap.size := fun h => by have := hown.out _ h; have := hlt4.out; omega
          have hb8 := Lib.hid (hbw4.out.trans (hbl.out.mono hbw4.out.size))
          have hfin : Hid (∀ j jj, Sl 3 1 encI ((((wr.drewN j).setCell ⟨w.heap.size, 0, none⟩ (.int .i64 (-1))).setCell ⟨w.heap.size, 1, none⟩ (.int .i64 0)).drewN jj) u11 (togK (vAll first l).cells words ((vAll first l).commits + 1))) := Lib.hid (fun j jj => by rw [← hSc.out]; exact (((hS.out.drewN j).set (p := ⟨w.heap.size, 0, none⟩) hnR _).set (p := ⟨w.heap.size, 1, none⟩) hnR _).drewN jj)
          clear hR7 hO7 hS hbl hnR
          go_wp2
          refine wp_region_mixH (fun _ => True) [3, 1, 3, 2] (List.range 4) (by kernel_rfl) (by kernel_rfl) (fun _ _ h => h) trivial ?_
          (repeat ((first | refine wpMixH_pure rfl rfl (fun K hK => ?_) | refine wpMixH_loc rfl rfl (fun K hK => ?_) | refine wpMixH_any rfl rfl (fun K hK => ?_)); go_simp; refine hK _ _ ?_; clear hK K))
          refine wpMixH_loud rfl rfl (fun n1 K hK => ?_)
          go_wp2
          refine hK _ _ (fun _ => trivial) ?_; clear hK K
          refine wpMixH_nil (fun n2 => ?_)
          go_wp2
          refine bodyPost_ret (v := .tuple #[u11, .agg #[.int .i64 (-1), .int .i64 0]]) (by simp [results, Try.results18, go_sem, r0, r1, f0, f1]) rfl ⟨below_drewNs (((below_drewNs hb8.out _).setCell (Nat.le_refl _) _).setCell (Nat.le_refl _) _) _, _, by rw [e.out], by rw [e.out]; exact hfin.out _ _⟩
        | succ g0 =>
          have hkl : k < (stA first l).length := by omega
          have hk' : (k : Int) < ((stA first l).length : Int) := by omega
          have w1k := IntWalk.i64_in (n := (k : Int) + 1) (by omega)
          have hTx := hT4.out.below hbl.out
          have hkv : k < vs.length := by rw [hvl.out]; exact hkl
          obtain ⟨gS, oS, e1, -, hcc⟩ := hTx.sl.cell encW_len (by decide) hkv
          subst e1
          have s0 := (hcc k hkv 0 (by decide)).1
          have hWk := (hTx.at_ k hkv).lies
          generalize vs[k] = v at *
          obtain ⟨vA, vn, vc⟩ := v
          simp only [encW, List.getElem?_cons_zero, Nat.add_zero, Nat.mul_one] at s0
          have hLk := hLl.out k hkl
          have ST := rstoodP_b hWk (hW4.out.below hbl.out) (by rw [hLk]; omega) (by have := hwl'.out; omega) (fun p hp => by rw [hLk]; exact hrg.out p hp)
          rw [stoodR_eq HV.out hkl hrg.out] at ST
          replace ST := Lib.hid ST
          obtain ⟨b, hb⟩ : ∃ b, b = stoodW (vAll first l).cells k words := ⟨_, rfl⟩
          rw [← hb] at ST
          replace hb := Lib.hid hb
          clear hcc hWk hTx hkv hLk
          cases b with
          | true =>
            go_wp2_with fail
            refine ST.out.mono ?_
            rintro _ _ ⟨rfl, n7, rfl⟩
            obtain ⟨w7, hw7⟩ : ∃ w7, w7 = wr.drewN n7 := ⟨_, rfl⟩
            have hS7 : Hid (Sl 3 1 encI w7 u11 (togK (vAll first l).cells words k)) := Lib.hid (by rw [hw7]; exact hS.out.drewN _)
            have hbl7 : Hid (Below w4.heap.size w4 w7) := Lib.hid (by rw [hw7]; exact below_drewNs hbl.out _)
            rw [← hw7]
            replace hw7 := Lib.hid hw7
            have HAPP := Lib.hid (fun (A4 : Option Addr) (cap4 : Nat) (w9 : World) (hS4 : Sl 3 1 encI w9 (.slice A4 ((togK (vAll first l).cells words k).length + 1) cap4) (togK (vAll first l).cells words k ++ [k])) (hF4 : Fr (own u11) w7 (own (.slice A4 ((togK (vAll first l).cells words k).length + 1) cap4)) w9) => show ∃ k' : Nat, k' + g0 = (stA first l).length ∧ Value.int IntKind.i64 ((k : Int) + 1) = .int .i64 (k' : Int) ∧ Hid (Sl 3 1 encI w9 (.slice A4 ((togK (vAll first l).cells words k).length + 1) cap4) (togK (vAll first l).cells words k')) ∧ Hid (∀ q, own (.slice A4 ((togK (vAll first l).cells words k).length + 1) cap4) q → w4.heap.size ≤ q) ∧ Hid (Below w4.heap.size w4 w9) from
              ⟨k + 1, by omega, by go_num, Lib.hid (by rw [togK_yes hb.out.symm]; exact hS4), Lib.hid (fun q hq => (hF4.new q hq).elim (hown.out q) fun h => Nat.le_trans hbl7.out.size h), Lib.hid (hbl7.out.trans (hF4.below hown.out hbl7.out.size))⟩)
            have htl := Lib.hid (togK_len (vAll first l).cells words k)
            have hc1 := Lib.hid HV.out.vi.cm
            clear hS hbl
            go_wp2_with (at_builtin; refine wpList_intO w7 rfl (.tmp 51) (.tmp 53) rfl u11 (togK (vAll first l).cells words k) k rfl hS7.out rfl (by have := htl.out; omega) (by have := htl.out; have := hc1.out; have := hSc.out; omega) ?_; intro A4 cap4 w9 hc4 hS4 hF4; have HREL := Lib.hid (HAPP.out A4 cap4 w9 hS4 hF4); clear hS4 hF4)
            go_roundg g0
            case measure => omega
            case rel => exact HREL.out
          | false =>
            go_wp2_with fail
            refine ST.out.mono ?_
            rintro _ _ ⟨rfl, n7, rfl⟩
            have hS7 := Lib.hid (hS.out.drewN n7)
            have hbl7 := Lib.hid (below_drewNs hbl.out n7)
            rw [← togK_no hb.out.symm] at hS7
            clear hS hbl
            go_wp2
            go_roundg g0
            case measure => omega
            case rel => exact ⟨k + 1, by omega, by go_num, hS7, hown, hbl7⟩
end Go.Proofs.Ytloiadhdkgkjkaa
/- What stands stays: behind worlds that lay new blocks. (For texts that do not import XOpT, which has the same two.) -/
namespace Go.Proofs.Ytloiadhdkgkjkaa
open Go.RowKit
theorem Sl.blw {α : Type} {e : TypeId} {sz : Nat} {enc : α → List Value} {w w' : World} {v : Value} {l : List α} (h : Sl e sz enc w v l) (hb : Below w.heap.size w w') : Sl e sz enc w' v l := h.keep fun k hk => hb.block k (h.lt k hk)
theorem Blk.blw {w w' : World} {b : Nat} {t : TypeId} {cs : Array Value} (h : Blk w b t cs) (hb : Below w.heap.size w w') : Blk w' b t cs := h.below hb h.lt
end Go.Proofs.Ytloiadhdkgkjkaa
/- The document's answer for chapter 16: put by contract: a cell in a list that rises. -/
namespace Go.Proofs.Ytloiadhdkgkjkaa
open Go.RowKit
set_option maxHeartbeats 40000000
set_option linter.unusedVariables false
set_option linter.unusedSimpArgs false
def ltC (x c : Int × Int) : Bool := decide (x.1 < c.1 ∨ (x.1 = c.1 ∧ x.2 < c.2))
def atP (l : List (Int × Int)) (c : Int × Int) : Nat := l.findIdx fun x => !ltC x c
def insAt (l : List (Int × Int)) (k : Nat) (y : Int × Int) : List (Int × Int) := l.take k ++ ([y] ++ l.drop k)
/-- A cell in a list that rises; once. -/
def putL (l : List (Int × Int)) (c : Int × Int) : List (Int × Int) := if l[atP l c]? = some c then l else insAt l (atP l c) c
theorem atP_eq {l : List (Int × Int)} {c : Int × Int} {k : Nat} (hk : k ≤ l.length) (h1 : ∀ j (hj : j < k), ltC (l[j]'(by omega)) c = true) (h2 : ∀ (h : k < l.length), ltC l[k] c = false) : atP l c = k := by
  unfold atP
  rcases Nat.lt_or_ge k l.length with h | h
  · rw [List.findIdx_eq h]
    exact ⟨by rw [h2 h]; rfl, fun j hj => by rw [h1 j hj]; rfl⟩
  · have e : k = l.length := by omega
    subst e
    rw [List.findIdx_eq_length]
    intro x hx
    obtain ⟨j, hj, rfl⟩ := List.mem_iff_getElem.1 hx
    rw [h1 j hj]; rfl
theorem insAt_len {l : List (Int × Int)} {k : Nat} (hk : k ≤ l.length) (y : Int × Int) : (insAt l k y).length = l.length + 1 := by
  unfold insAt
  simp only [List.length_append, List.length_take, List.length_drop, List.length_singleton]
  omega
theorem insAt_set {l : List (Int × Int)} {k : Nat} (hk : k ≤ l.length) (y c : Int × Int) : (insAt l k y).set k c = insAt l k c := by
  unfold insAt
  have h : (l.take k).length = k := by rw [List.length_take]; omega
  rw [List.set_append, if_neg (by omega), h, Nat.sub_self]
  rfl
theorem insAt_get {l : List (Int × Int)} {k : Nat} (hk : k + 1 ≤ l.length) (y : Int × Int) : (insAt l (k + 1) y)[k]? = l[k]? := by
  unfold insAt
  rw [List.getElem?_append_left (by rw [List.length_take]; omega), List.getElem?_take, if_pos (by omega)]
theorem insAt_step {l : List (Int × Int)} {k : Nat} (hk : k + 1 ≤ l.length) (y : Int × Int) : (insAt l (k + 1) y).set (k + 1) (l[k]'(by omega)) = insAt l k (l[k]'(by omega)) := by
  rw [insAt_set hk]
  unfold insAt
  rw [List.take_succ_eq_append_getElem (by omega), List.append_assoc]
  congr 1
  have := List.drop_eq_getElem_cons (show k < l.length by omega)
  rw [this]
  rfl
theorem insAt_end (l : List (Int × Int)) (c : Int × Int) : insAt l l.length c = l ++ [c] := by unfold insAt; rw [List.take_length, List.drop_length, List.append_nil]
set_option maxRecDepth 100000 in
theorem rput16_b {w : World} {v : Value} {l : List (Int × Int)} {c : Int × Int} (hS : Sl 45 2 encC w v l) (hl : (l.length + 1) * 16 ≤ 140737488355328) :
    Calls Try.prog 47 #[v, .agg #[.int .u64 c.1, .int .u64 c.2]] w fun x w' => ∃ ov, x = .returned ov ∧ Sl 45 2 encC w' ov (putL l c) ∧ Fr (own v) w (own ov) w' := by
  obtain ⟨A, cp, rfl, hcp⟩ := hS.shape
  obtain ⟨ca, cb⟩ := c
  dsimp only
  have hlen : (l.length : Int) ≤ 9223372036854775000 := by omega
  obtain ⟨w1, hw1⟩ : ∃ w1, w1 = w.alloc (.cells #[.int .u64 ca, .int .u64 cb] 45) := ⟨_, rfl⟩
  have hS1 : Hid (Sl 45 2 encC w1 (.slice A l.length cp) l) := Lib.hid (by rw [hw1]; exact hS.alloc _)
  have hF1 : Hid (Fr (own (.slice A l.length cp)) w (own (.slice A l.length cp)) w1) := Lib.hid (by rw [hw1]; exact (Fr.refl _ _).alloc _)
  have hC1 : Hid (Blk w1 w.heap.size 45 #[.int .u64 ca, .int .u64 cb]) := Lib.hid (by rw [hw1]; exact Blk.new _ _ _)
  have hlt := Lib.hid hS.lt
  have hs1 : Hid (w1.heap.size = w.heap.size + 1) := Lib.hid (by rw [hw1]; simp)
  replace hw1 := Lib.hid hw1
  have hlen2 := Lib.hid hlen
  have hl2 := Lib.hid hl
  replace hS := Lib.hid hS
  clear hlen hl hcp
  go_enter Try.func47, Try.ntmps47
  go_upto_block 0 with (fail)
  rw [← hw1.out]
  go_cut [5] (fun c5 wx => ∃ k : Nat, k ≤ l.length ∧ c5 = .int .i64 (k : Int) ∧ atP l (ca, cb) = k ∧ ∃ m, wx = w1.drewN m)
  case first =>
    go_wp2_with fail
    go_loopg [5] l.length (fun gk c5 wr => ∃ j m : Nat, j + gk = l.length ∧ c5 = .int .i64 (j : Int) ∧ wr = w1.drewN m ∧ Hid (∀ i (h : i < l.length), i < j → ltC l[i] (ca, cb) = true))
    case atStart => exact ⟨0, 0, by omega, rfl, rfl, Lib.hid fun i h1 h2 => by omega⟩
    case round =>
      obtain ⟨j, m, hjg, rfl, rfl, hall⟩ := hrel
      cases gk with
      | zero =>
        have hj : j = l.length := by omega
        subst hj
        have hlen := hlen2.out
        go_wp2_with fail
        go_quiet (fail)
        go_wp2
        go_meet
        exact ⟨l.length, Nat.le_refl _, rfl, atP_eq (Nat.le_refl _) (fun i hi => hall.out i hi hi) (fun h => by omega), _, by rw [drewN_drewN]⟩
      | succ g0 =>
        have hjl : j < l.length := by omega
        have hjl' : (j : Int) < (l.length : Int) := by omega
        obtain ⟨g, o, e1, -, hcc⟩ := hS1.out.cell encC_len (by decide) hjl
        subst e1
        have x0 := (hcc j hjl 0 (by decide)).1
        have x1 := (hcc j hjl 1 (by decide)).1
        simp only [encC, List.getElem?_cons_zero, List.getElem?_cons_succ, Nat.add_zero, ← Nat.add_assoc] at x0 x1
        have z0 := (hC1.out.cell 0).trans (show _ = some (.int .u64 ca) from rfl)
        have z1 := (hC1.out.cell 1).trans (show _ = some (.int .u64 cb) from rfl)
        have w1j : IntKind.i64.wrap ((j : Int) + 1) = (j : Int) + 1 := IntWalk.i64_in _ (by have := hlen2.out; omega)
        have hyes : Hid (ltC l[j] (ca, cb) = true → ∀ i (h : i < l.length), i < j + 1 → ltC l[i] (ca, cb) = true) := Lib.hid fun h i h1 h2 => by
          by_cases e : i = j
          · subst e; exact h
          · exact hall.out i h1 (by omega)
        have hno : Hid (ltC l[j] (ca, cb) = false → atP l (ca, cb) = j) := Lib.hid fun h => atP_eq (by omega) (fun i hi => hall.out i (by omega) hi) (fun _ => h)
        clear hcc hall
        generalize l[j] = x at *
        obtain ⟨xa, xb⟩ := x
        obtain ⟨wq, hwq⟩ : ∃ wq, wq = w1.drewN m := ⟨_, rfl⟩
        have x0' : wq.cell? ⟨g, o + j * 2, none⟩ = some (.int .u64 xa) := by rw [hwq]; exact x0
        have x1' : wq.cell? ⟨g, o + j * 2 + 1, none⟩ = some (.int .u64 xb) := by rw [hwq]; exact x1
        have z0' : wq.cell? ⟨w.heap.size, 0, none⟩ = some (.int .u64 ca) := by rw [hwq]; exact z0
        have z1' : wq.cell? ⟨w.heap.size, 1, none⟩ = some (.int .u64 cb) := by rw [hwq]; exact z1
        rw [← hwq]
        replace hwq := Lib.hid hwq
        clear x0 x1 z0 z1
        by_cases h1 : xa < ca
        · have hl := Lib.hid (hyes.out (by unfold ltC; exact decide_eq_true (.inl h1)))
          go_wp2_with fail
          go_quiet (fail)
          go_wp2
          go_roundg g0
          case measure => omega
          case rel => exact ⟨j + 1, _, by omega, by go_num, by rw [hwq.out, drewN_drewN], hl⟩
        · have h1b : decide (xa < ca) = false := decide_eq_false h1
          by_cases h2 : xa = ca
          · have h2b : (xa == ca) = true := by simpa using h2
            by_cases h3 : xb < cb
            · have hl := Lib.hid (hyes.out (by unfold ltC; exact decide_eq_true (.inr ⟨h2, h3⟩)))
              replace h2 := Lib.hid h2
              replace h1 := Lib.hid h1
              go_wp2_with fail
              go_quiet (fail)
              go_wp2
              go_roundg g0
              case measure => omega
              case rel => exact ⟨j + 1, _, by omega, by go_num, by rw [hwq.out, drewN_drewN], hl⟩
            · have hl := Lib.hid (hno.out (by unfold ltC; exact decide_eq_false (by dsimp only; omega)))
              have h3b : decide (xb < cb) = false := decide_eq_false h3
              replace h2 := Lib.hid h2
              replace h1 := Lib.hid h1
              replace h3 := Lib.hid h3
              go_wp2_with fail
              go_quiet (fail)
              go_wp2
              go_meet
              exact ⟨j, Nat.le_of_lt hjl, rfl, hl.out, _, by rw [hwq.out, drewN_drewN]⟩
          · have h2b : (xa == ca) = false := by simpa using h2
            have hl := Lib.hid (hno.out (by unfold ltC; exact decide_eq_false (by dsimp only; omega)))
            replace h2 := Lib.hid h2
            replace h1 := Lib.hid h1
            go_wp2_with fail
            go_quiet (fail)
            go_wp2
            go_meet
            exact ⟨j, Nat.le_of_lt hjl, rfl, hl.out, _, by rw [hwq.out, drewN_drewN]⟩
  case rest =>
  obtain ⟨k, hkl, rfl, hat, m, rfl⟩ := hcut
  obtain ⟨wB, hwB⟩ : ∃ wB, wB = w1.drewN m := ⟨_, rfl⟩
  have hSB : Hid (Sl 45 2 encC wB (.slice A l.length cp) l) := Lib.hid (by rw [hwB]; exact hS1.out.drewN m)
  have hFB : Hid (Fr (own (.slice A l.length cp)) w (own (.slice A l.length cp)) wB) := Lib.hid (by rw [hwB]; exact hF1.out.drewN m)
  have hCB : Hid (Blk wB w.heap.size 45 #[.int .u64 ca, .int .u64 cb]) := Lib.hid (by rw [hwB]; exact hC1.out.drewN m)
  have hsB : Hid (wB.heap.size = w.heap.size + 1) := Lib.hid (by rw [hwB]; exact hs1.out)
  rw [← hwB]
  clear hwB hS1 hF1 hC1 hs1 hw1
  replace hat := Lib.hid hat
  go_upto_region 4 with (fail)
  go_cut [54] (fun c54 wx => c54 = .bool (decide (l[k]? = some (ca, cb))) ∧ ∃ m, wx = wB.drewN m)
  case first =>
    have z0 := (hCB.out.cell 0).trans (show _ = some (.int .u64 ca) from rfl)
    have z1 := (hCB.out.cell 1).trans (show _ = some (.int .u64 cb) from rfl)
    by_cases hk : k < l.length
    · have hk' : (k : Int) < (l.length : Int) := by omega
      obtain ⟨g, o, e1, -, hcc⟩ := hSB.out.cell encC_len (by decide) hk
      subst e1
      have x0 := (hcc k hk 0 (by decide)).1
      have x1 := (hcc k hk 1 (by decide)).1
      simp only [encC, List.getElem?_cons_zero, List.getElem?_cons_succ, Nat.add_zero, ← Nat.add_assoc] at x0 x1
      have hd : Hid (decide (l[k]? = some (ca, cb)) = decide (l[k] = (ca, cb))) := Lib.hid (by rw [List.getElem?_eq_getElem hk]; simp)
      clear hcc
      generalize l[k] = x at *
      obtain ⟨xa, xb⟩ := x
      dsimp only at x0 x1
      have hE := cell_eql xa xb ca cb
      have hd2 : Hid ((decide (xa = ca) && decide (xb = cb)) = decide ((xa, xb) = (ca, cb))) := Lib.hid (by rw [Bool.eq_iff_iff]; simp)
      rw [hd2.out] at hE
      generalize decide ((xa, xb) = (ca, cb)) = bb at *
      clear hd2
      go_wp2_with fail
      go_quiet (fail)
      go_wp2
      go_meet
      exact ⟨congrArg Value.bool hd.out.symm, _, rfl⟩
    · have hk2 : k = l.length := by omega
      subst hk2
      have hd : Hid (decide (l[l.length]? = some (ca, cb)) = false) := Lib.hid (by rw [List.getElem?_eq_none (Nat.le_refl _)]; rfl)
      have hlen := hlen2.out
      go_wp2_with fail
      go_quiet (fail)
      go_wp2
      go_meet
      exact ⟨congrArg Value.bool hd.out.symm, _, rfl⟩
  case rest =>
  obtain ⟨rfl, m2, rfl⟩ := hcut
  obtain ⟨wD, hwD⟩ : ∃ wD, wD = wB.drewN m2 := ⟨_, rfl⟩
  have hSD : Hid (Sl 45 2 encC wD (.slice A l.length cp) l) := Lib.hid (by rw [hwD]; exact hSB.out.drewN m2)
  have hFD : Hid (Fr (own (.slice A l.length cp)) w (own (.slice A l.length cp)) wD) := Lib.hid (by rw [hwD]; exact hFB.out.drewN m2)
  have hCD : Hid (Blk wD w.heap.size 45 #[.int .u64 ca, .int .u64 cb]) := Lib.hid (by rw [hwD]; exact hCB.out.drewN m2)
  have hsD : Hid (wD.heap.size = w.heap.size + 1) := Lib.hid (by rw [hwD]; exact hsB.out)
  rw [← hwD]
  clear hwD hSB hFB hCB hsB
  by_cases hin : l[k]? = some (ca, cb)
  · have hp : Hid (putL l (ca, cb) = l) := Lib.hid (by unfold putL; rw [hat.out, if_pos hin])
    have hd : decide (l[k]? = some (ca, cb)) = true := decide_eq_true hin
    rw [hd]
    replace hin := Lib.hid hin
    clear hd
    go_wp2
    go_ret
    exact ⟨_, rfl, by rw [hp.out]; exact hSD.out, hFD.out⟩
  have hp : Hid (putL l (ca, cb) = insAt l k (ca, cb)) := Lib.hid (by unfold putL; rw [hat.out, if_neg hin])
  have hd : decide (l[k]? = some (ca, cb)) = false := decide_eq_false hin
  rw [hd]
  replace hin := Lib.hid hin
  clear hd
  have z0 := (hCD.out.cell 0).trans (show _ = some (.int .u64 ca) from rfl)
  have z1 := (hCD.out.cell 1).trans (show _ = some (.int .u64 cb) from rfl)
  have hw7 : wrap64 (l.length : Int) = (l.length : Int) := IntWalk.wrap64_in _ (by have := hlen2.out; omega)
  have hln1 : Hid (((l.length + 1 : Nat) : Int) ≤ 9223372036854775807) := Lib.hid (by have := hlen2.out; omega)
  go_wp2_with (at_builtin; refine wpList_cellO wD rfl (.tmp 56) (.tmp 58) rfl (.slice A l.length cp) l (ca, cb) rfl hSD.out rfl (by have := hl2.out; omega) hl2.out ?_; intro A5 cap5 w5 hc5 hS5 hF5; clear z0 z1)
  have hne5 : Hid (∀ q, own (.slice A5 (l.length + 1) cap5) q → q ≠ w.heap.size) := Lib.hid fun q hq e => by
    rcases hF5.new q hq with h | h
    · have := hlt.out q h; omega
    · have := hsD.out; omega
  have hC5 : Hid (Blk w5 w.heap.size 45 #[.int .u64 ca, .int .u64 cb]) := Lib.hid ((hF5.block w.heap.size hCD.out.lt (fun h => by have := hlt.out _ h; omega)).trans hCD.out)
  rw [← insAt_end] at hS5
  have hFw := Lib.hid (hFD.out.trans hF5)
  replace hS5 := Lib.hid hS5
  clear hF5 hCD hSD hFD
  go_loopg [6] (l.length - k) (fun gk c6 wr => ∃ (j : Nat) (y : Int × Int), k + gk = j ∧ j ≤ l.length ∧ c6 = .int .i64 (j : Int) ∧ Hid (Sl 45 2 encC wr (.slice A5 (l.length + 1) cap5) (insAt l j y)) ∧ Hid (Fr (own (.slice A5 (l.length + 1) cap5)) w5 (own (.slice A5 (l.length + 1) cap5)) wr))
  case atStart => exact ⟨l.length, _, by omega, Nat.le_refl _, congrArg (Value.int IntKind.i64) hw7, hS5, Lib.hid (Fr.refl _ _)⟩
  case round =>
    obtain ⟨j, y, hjk, hjl, rfl, hS, hF⟩ := hrel
    have hil := insAt_len hjl y
    obtain ⟨g, o, e1, -, hcc⟩ := hS.out.cell encC_len (by decide) (show 0 < (insAt l j y).length by omega)
    subst e1
    have hC : Hid (Blk wr w.heap.size 45 #[.int .u64 ca, .int .u64 cb]) := Lib.hid ((hF.out.block w.heap.size hC5.out.lt (fun h => hne5.out _ h rfl)).trans hC5.out)
    cases gk with
    | zero =>
      obtain rfl : j = k := by omega
      obtain ⟨s0, f0⟩ := hcc j (by omega) 0 (by decide)
      obtain ⟨s1, f1⟩ := hcc j (by omega) 1 (by decide)
      have u1 := hS.out.upd encC_len (i := j) (j := 0) (by omega) (by decide) (.int .u64 ca) (ca, ((insAt l j y)[j]'(by omega)).2) rfl
      have u2 := u1.upd encC_len (i := j) (j := 1) (by rw [List.length_set]; omega) (by decide) (.int .u64 cb) (ca, cb) (by rw [List.getElem_set_self]; rfl)
      rw [List.set_set, insAt_set hjl] at u2
      have z0 := (hC.out.cell 0).trans (show _ = some (.int .u64 ca) from rfl)
      have z1 := (hC.out.cell 1).trans (show _ = some (.int .u64 cb) from rfl)
      rw [show o + (j * 2 + 0) = o + j * 2 by omega] at s0 f0 u2
      rw [show o + (j * 2 + 1) = o + j * 2 + 1 by omega] at s1 f1 u2
      have hFf := Lib.hid (((hFw.out.trans hF.out).set (p := ⟨g, o + j * 2, none⟩) (.inl (by simp [own, Value.ownBlock])) (.int .u64 ca)).set (p := ⟨g, o + j * 2 + 1, none⟩) (.inl (by simp [own, Value.ownBlock])) (.int .u64 cb))
      have b1 : (j : Int) < ((l.length + 1 : Nat) : Int) := by omega
      simp only [encC, List.getElem?_cons_zero, List.getElem?_cons_succ] at s0 s1
      generalize ((insAt l j y)[j]'(by omega)).1 = p0 at *
      generalize ((insAt l j y)[j]'(by omega)).2 = p1 at *
      replace u2 := Lib.hid u2
      clear hcc hS u1 hC hF
      go_wp2
      go_ret
      exact ⟨_, rfl, by rw [hp.out]; exact u2.out, hFf.out⟩
    | succ g0 =>
      obtain ⟨jj, rfl⟩ : ∃ jj, j = jj + 1 := ⟨j - 1, by omega⟩
      have hg := insAt_get (k := jj) hjl y
      have hst := insAt_step (k := jj) hjl y
      obtain ⟨s0, f0⟩ := hcc (jj + 1) (by omega) 0 (by decide)
      obtain ⟨s1, f1⟩ := hcc (jj + 1) (by omega) 1 (by decide)
      have x0 := (hcc jj (by omega) 0 (by decide)).1
      have x1 := (hcc jj (by omega) 1 (by decide)).1
      have ex : (insAt l (jj + 1) y)[jj]'(by omega) = l[jj]'(by omega) := by
        rw [List.getElem?_eq_getElem (by omega), List.getElem?_eq_getElem (by omega)] at hg
        injection hg
      rw [ex] at x0 x1
      have u1 := hS.out.upd encC_len (i := jj + 1) (j := 0) (by omega) (by decide) (.int .u64 (l[jj]'(by omega)).1) ((l[jj]'(by omega)).1, ((insAt l (jj + 1) y)[jj + 1]'(by omega)).2) rfl
      have u2 := u1.upd encC_len (i := jj + 1) (j := 1) (by rw [List.length_set]; omega) (by decide) (.int .u64 (l[jj]'(by omega)).2) (l[jj]'(by omega)) (by rw [List.getElem_set_self]; rfl)
      rw [List.set_set, hst] at u2
      rw [show o + ((jj + 1) * 2 + 0) = o + (jj + 1) * 2 by omega] at s0 f0 u2
      rw [show o + ((jj + 1) * 2 + 1) = o + (jj + 1) * 2 + 1 by omega] at s1 f1 u2
      rw [show o + (jj * 2 + 0) = o + jj * 2 by omega] at x0
      rw [show o + (jj * 2 + 1) = o + jj * 2 + 1 by omega] at x1
      simp only [encC, List.getElem?_cons_zero, List.getElem?_cons_succ] at s0 s1 x0 x1
      clear hcc ex hg hst u1
      generalize ((insAt l (jj + 1) y)[jj + 1]'(by omega)).1 = p0 at *
      generalize ((insAt l (jj + 1) y)[jj + 1]'(by omega)).2 = p1 at *
      have hl1 : jj < l.length := by omega
      generalize (l[jj]'hl1) = q at *
      obtain ⟨qa, qb⟩ := q
      dsimp only at x0 x1 u2
      have hFf := Lib.hid ((hF.out.set (p := ⟨g, o + (jj + 1) * 2, none⟩) (.inl (by simp [own, Value.ownBlock])) (.int .u64 qa)).set (p := ⟨g, o + (jj + 1) * 2 + 1, none⟩) (.inl (by simp [own, Value.ownBlock])) (.int .u64 qb))
      replace u2 := Lib.hid u2
      generalize hJ : jj + 1 = J at *
      have b1 : (J : Int) < ((l.length + 1 : Nat) : Int) := by omega
      have b2 : (jj : Int) < ((l.length + 1 : Nat) : Int) := by omega
      have b3 : (k : Int) < (J : Int) := by omega
      have w1J : IntKind.i64.wrap ((J : Int) - 1) = (jj : Int) := by rw [IntWalk.i64_in _ (by have := hlen2.out; omega)]; omega
      have w2J : wrap64 ((J : Int) - 1) = (jj : Int) := by rw [IntWalk.wrap64_in _ (by have := hlen2.out; omega)]; omega
      replace hJ := Lib.hid hJ
      clear hS hF hC hil
      go_wp2
      go_roundg g0
      case measure => omega
      case rel => exact ⟨jj, _, by have := hJ.out; omega, by omega, by first | rfl | (rw [w1J]) | (rw [w2J]), u2, hFf⟩
end Go.Proofs.Ytloiadhdkgkjkaa
