/- opaque.see, plain: what is gathered event by event, and what holds of it. -/
import Derived.Test.YtloiadhdkgkjkaaOpE0
namespace Go.Proofs.Ytloiadhdkgkjkaa
set_option maxHeartbeats 1000000
set_option linter.unusedVariables false
set_option linter.unusedSimpArgs false

/-- An event, ahead of the round's tail. -/
def vEv (T : List Tr) (v : Vw) (e : Ev) : Vw :=
  let k := e.th.toNat
  let t := v.now k
  if e.kd = 1 then ⟨upd v.now k ⟨v.next, false, []⟩, v.cells, v.commits, v.sights ++ [⟨T.getD v.next Tr.zero, [], v.commits, 0⟩], v.next + 1⟩
  else if e.kd = 2 then (if e.ow then v else ⟨v.now, v.cells, v.commits, v.sights.set t.tri ⟨(v.sights.getD t.tri Sg.zero).tr, (v.sights.getD t.tri Sg.zero).reads ++ [(e.ad, e.wd)], (v.sights.getD t.tri Sg.zero).fr, (v.sights.getD t.tri Sg.zero).upto⟩, v.next⟩)
  else if e.kd = 3 then ⟨upd v.now k ⟨t.tri, t.lk, t.ws ++ [(e.ad, e.wd)]⟩, v.cells, v.commits, v.sights, v.next⟩
  else if e.kd = 5 then ⟨upd v.now k ⟨t.tri, true, t.ws⟩, v.cells, v.commits, v.sights, v.next⟩
  else if e.kd = 6 ∧ t.lk = true then ⟨v.now, putAll v.cells (v.commits + 1) t.ws, v.commits + 1, v.sights, v.next⟩
  else v
def tailB (v : Vw) (i : Nat) (e : Ev) : Bool := decide (0 < v.next) && (decide ((v.now e.th.toNat).tri < v.sights.length) && ((v.sights.getD (v.now e.th.toNat).tri Sg.zero).tr.th == e.th && (v.sights.getD (v.now e.th.toNat).tri Sg.zero).tr.last == i))
/-- The round's tail: the event may be its attempt's last. -/
def vTl (v : Vw) (i : Nat) (e : Ev) : Vw :=
  let q := (v.now e.th.toNat).tri
  if tailB v i e = true then ⟨v.now, v.cells, v.commits, v.sights.set q ⟨(v.sights.getD q Sg.zero).tr, (v.sights.getD q Sg.zero).reads, (v.sights.getD q Sg.zero).fr, v.commits⟩, v.next⟩ else v
def vn (first : List Int) (T : List Tr) (l : List Ev) : Nat → Vw
  | 0 => vw0 first
  | k + 1 => vTl (vEv T (vn first T l k) (evAt l k)) k (evAt l k)
/-- A cell's list: rising, none behind n commits, one at least. -/
structure Inc (l : List (Nat × Int)) (n : Nat) : Prop where
  ne : l ≠ []
  le : ∀ p ∈ l, p.1 ≤ n
  up : l.Pairwise fun a b => a.1 < b.1
theorem inc_len : ∀ {l : List (Nat × Int)} {n : Nat}, (∀ p ∈ l, p.1 ≤ n) → l.Pairwise (fun a b => a.1 < b.1) → l.length ≤ n + 1 := by
  have key : ∀ (l : List (Nat × Int)) (lo n : Nat), (∀ p ∈ l, lo ≤ p.1 ∧ p.1 ≤ n) → l.Pairwise (fun a b => a.1 < b.1) → l.length + lo ≤ n + 1 ∨ l = [] := by
    intro l
    induction l with
    | nil => intro lo n _ _; exact .inr rfl
    | cons p l ih =>
      intro lo n h hp
      have h1 := h p (by simp)
      rw [List.pairwise_cons] at hp
      rcases ih (p.1 + 1) n (fun q hq => ⟨hp.1 q hq, (h q (by simp [hq])).2⟩) hp.2 with h2 | h2
      · left; simp; omega
      · subst h2; left; simp; omega
  intro l n h hp
  rcases key l 0 n (fun p hp' => ⟨Nat.zero_le _, h p hp'⟩) hp with h1 | h1
  · omega
  · subst h1; simp
theorem Inc.len {l : List (Nat × Int)} {n : Nat} (h : Inc l n) : l.length ≤ n + 1 := inc_len h.le h.up
theorem Inc.put {l : List (Nat × Int)} {n m : Nat} (h : Inc l n) (hm : n ≤ m) (x : Int) : Inc (cutL l m ++ [(m, x)]) m := by
  have hcut : (∀ p ∈ cutL l m, p.1 < m) ∧ (cutL l m).Pairwise fun a b => a.1 < b.1 := by
    unfold cutL
    have hl := List.dropLast_concat_getLast h.ne
    split
    · rename_i he
      refine ⟨fun p hp => ?_, h.up.sublist (List.dropLast_sublist l)⟩
      have hup := h.up
      rw [← hl, List.pairwise_append] at hup
      have := hup.2.2 p hp (l.getLast h.ne) (by simp)
      rw [List.getLast?_eq_some_getLast h.ne] at he
      simp at he
      omega
    · rename_i he
      refine ⟨fun p hp => ?_, h.up⟩
      have h1 := h.le p hp
      by_cases hpm : p.1 = m
      · exfalso
        apply he
        have hup := h.up
        rw [← hl, List.pairwise_append] at hup
        rw [← hl, List.mem_append, List.mem_singleton] at hp
        rw [List.getLast?_eq_some_getLast h.ne]
        rcases hp with hp | hp
        · have := hup.2.2 p hp (l.getLast h.ne) (by simp)
          have := h.le (l.getLast h.ne) (List.getLast_mem h.ne)
          omega
        · rw [← hp]; simp [hpm]
      · omega
  refine ⟨by simp, fun p hp => ?_, ?_⟩
  · rcases List.mem_append.1 hp with hp | hp
    · exact Nat.le_of_lt (hcut.1 p hp)
    · rw [List.mem_singleton] at hp; subst hp; exact Nat.le_refl _
  · rw [List.pairwise_append]
    exact ⟨hcut.2, by simp, fun a ha b hb => by rw [List.mem_singleton] at hb; subst hb; exact hcut.1 a ha⟩
theorem Inc.mono {l : List (Nat × Int)} {n m : Nat} (h : Inc l n) (hm : n ≤ m) : Inc l m := ⟨h.ne, fun p hp => Nat.le_trans (h.le p hp) hm, h.up⟩
theorem putAll_inc {n m size : Nat} (hm : n ≤ m) : ∀ {ws : List (Int × Int)} {c : Nat → List (Nat × Int)}, (∀ a, a < size → Inc (c a) m) → ∀ a, a < size → Inc (putAll c m ws a) m
  | [], c, h => h
  | p :: ws, c, h => putAll_inc hm (ws := ws) (c := putC c m p) fun a ha => by
    unfold putC
    split
    · exact (h a ha).put (Nat.le_refl _) _
    · exact h a ha
/-- What holds of what is gathered, behind k events. -/
structure VI (v : Vw) (s : St) (k size : Nat) : Prop where
  nx : v.next = s.tries.length
  sl : v.sights.length = v.next
  live : ∀ t, t < 8 → liveT (s.th t) → (v.now t).tri = (s.th t).tr
  ws : ∀ t, t < 8 → (∀ p ∈ (v.now t).ws, 0 ≤ p.1 ∧ p.1 < (size : Int)) ∧ (v.now t).ws.length ≤ k
  rd : ∀ x ∈ v.sights, x.reads.length ≤ k
  cm : v.commits ≤ k
  inc : ∀ a, a < size → Inc (v.cells a) v.commits
theorem VI.start (first : List Int) (size : Nat) : VI (vw0 first) St.zero 0 size :=
  ⟨rfl, rfl, fun t ht h => by simp [St.zero, liveT] at h, fun t ht => ⟨by simp [vw0], by simp [vw0]⟩, fun x hx => by simp [vw0] at hx, Nat.le_refl _, fun a ha => ⟨by simp [vw0], by simp [vw0], by simp [vw0]⟩⟩
theorem VI.tail {v : Vw} {s : St} {k size : Nat} (h : VI v s k size) (i : Nat) (e : Ev) : VI (vTl v i e) s k size := by
  unfold vTl
  dsimp only
  split
  · rename_i hb
    refine ⟨h.nx, by rw [List.length_set]; exact h.sl, h.live, h.ws, fun x hx => ?_, h.cm, h.inc⟩
    have hq : (v.now e.th.toNat).tri < v.sights.length := by
      unfold tailB at hb
      simp only [Bool.and_eq_true, decide_eq_true_eq] at hb
      exact hb.2.1
    rcases List.mem_or_eq_of_mem_set hx with hx | hx
    · exact h.rd x hx
    · subst hx
      dsimp only
      rw [List.getD_eq_getElem?_getD, List.getElem?_eq_getElem hq]
      exact h.rd _ (List.getElem_mem hq)
  · exact h
theorem take_tries_len (s : St) (k : Nat) (e : Ev) : (take s k e).tries.length = if e.kd = 1 then s.tries.length + 1 else s.tries.length := by
  unfold take
  dsimp only
  by_cases h1 : e.kd = 1
  · simp [h1]
  · simp [h1]
    split <;> simp
theorem take_th (s : St) (k : Nat) (e : Ev) (j : Nat) : (take s k e).th j = if j = e.th.toNat then tkT (s.th e.th.toNat) e s.tries.length else s.th j := rfl
theorem VI.ev {v : Vw} {s : St} {k size : Nat} {e : Ev} {T : List Tr} (h : VI v s k size) (hw : wrong s e = 0) (hs : Inv s k) (hp : plainE e = false) (hf : farE size e = false) (he : EvWf e) : VI (vEv T v e) (take s k e) (k + 1) size := by
  obtain ⟨hfm, htb, -⟩ := wrong_zero hw
  obtain ⟨⟨h0, h8⟩, k1, k12⟩ := fmd_bd hfm
  obtain ⟨th, kd, ad, wd, ow, er⟩ := e
  dsimp only at *
  obtain ⟨t, rfl⟩ := Int.eq_ofNat_of_zero_le h0
  obtain ⟨c, rfl⟩ := Int.eq_ofNat_of_zero_le (show 0 ≤ kd by omega)
  rw [Int.toNat_natCast] at htb
  have ht : t < 8 := by omega
  have hc : c < 13 := by omega
  have hh := hs.bd.how t
  have hcs := tb_ok hh hc htb
  have e1 : ((c : Int) = 1) = (c = 1) := by simp; omega
  have e2 : ((c : Int) = 2) = (c = 2) := by simp; omega
  have e3 : ((c : Int) = 3) = (c = 3) := by simp; omega
  have e4 : ((c : Int) = 4) = (c = 4) := by simp; omega
  have e5 : ((c : Int) = 5) = (c = 5) := by simp; omega
  have e6 : ((c : Int) = 6) = (c = 6) := by simp; omega
  have hlen := take_tries_len s k ⟨t, c, ad, wd, ow, er⟩
  simp only [e1] at hlen
  have hth := take_th s k ⟨t, c, ad, wd, ow, er⟩
  simp only [Int.toNat_natCast] at hth
  -- the live threads behind it
  have hlv : ∀ j, j < 8 → liveT ((take s k ⟨t, c, ad, wd, ow, er⟩).th j) → (j = t ∧ ((c = 1 ∧ ((take s k ⟨t, c, ad, wd, ow, er⟩).th j).tr = s.tries.length) ∨ (c ≠ 1 ∧ liveT (s.th t) ∧ ((take s k ⟨t, c, ad, wd, ow, er⟩).th j).tr = (s.th t).tr))) ∨ (j ≠ t ∧ liveT (s.th j) ∧ ((take s k ⟨t, c, ad, wd, ow, er⟩).th j).tr = (s.th j).tr) := by
    intro j hj hl
    rw [hth j] at hl ⊢
    by_cases hjt : j = t
    · subst hjt
      rw [if_pos rfl] at hl ⊢
      left
      refine ⟨rfl, ?_⟩
      rcases hcs with ⟨h1, rfl | rfl | rfl | rfl | rfl⟩ | ⟨h1, rfl | rfl | rfl | rfl | rfl | rfl | rfl | rfl⟩ | ⟨h1, rfl⟩
      all_goals simp [tkT, tb, liveT, h1] at hl ⊢
    · rw [if_neg hjt] at hl ⊢
      exact .inr ⟨hjt, hl, rfl⟩
  unfold vEv
  dsimp only
  simp only [e1, e2, e3, e5, e6, Int.toNat_natCast]
  have hnc : c ≠ 1 → v.next = (take s k ⟨t, c, ad, wd, ow, er⟩).tries.length := fun h1 => by rw [hlen, if_neg h1]; exact h.nx
  have hlive : ∀ (f : Nat → Nw), c ≠ 1 → (∀ j, (f j).tri = (v.now j).tri) → ∀ j, j < 8 → liveT ((take s k ⟨t, c, ad, wd, ow, er⟩).th j) → (f j).tri = ((take s k ⟨t, c, ad, wd, ow, er⟩).th j).tr := by
    intro f h1 hf j hj hl
    rw [hf]
    rcases hlv j hj hl with ⟨rfl, ⟨h2, _⟩ | ⟨_, h3, h4⟩⟩ | ⟨h2, h3, h4⟩
    · exact absurd h2 h1
    · rw [h4]; exact h.live j hj h3
    · rw [h4]; exact h.live j hj h3
  have hinc : ∀ a, a < size → Inc (v.cells a) v.commits := h.inc
  by_cases c1 : c = 1
  · rw [if_pos c1]
    refine ⟨by rw [hlen, if_pos c1]; exact congrArg (· + 1) h.nx, by simp; exact h.sl, fun j hj hl => ?_, fun j hj => ?_, fun x hx => ?_, by have := h.cm; dsimp only; omega, hinc⟩
    · dsimp only
      rcases hlv j hj hl with ⟨rfl, ⟨_, h2⟩ | ⟨h2, _⟩⟩ | ⟨h2, h3, h4⟩
      · rw [upd_at, h2]; exact h.nx
      · exact absurd c1 h2
      · rw [upd_ne _ _ h2, h4]; exact h.live j hj h3
    · dsimp only
      by_cases hjt : j = t
      · subst hjt; rw [upd_at]; simp
      · rw [upd_ne _ _ hjt]; exact ⟨(h.ws j hj).1, Nat.le_succ_of_le (h.ws j hj).2⟩
    · rcases List.mem_append.1 hx with hx | hx
      · exact Nat.le_succ_of_le (h.rd x hx)
      · rw [List.mem_singleton] at hx; subst hx; simp
  rw [if_neg c1]
  have hws : ∀ j, j < 8 → (∀ p ∈ (v.now j).ws, 0 ≤ p.1 ∧ p.1 < (size : Int)) ∧ (v.now j).ws.length ≤ k + 1 := fun j hj => ⟨(h.ws j hj).1, Nat.le_succ_of_le (h.ws j hj).2⟩
  have hcm : v.commits ≤ k + 1 := Nat.le_succ_of_le h.cm
  have same : VI v (take s k ⟨t, c, ad, wd, ow, er⟩) (k + 1) size := ⟨hnc c1, h.sl, hlive v.now c1 (fun _ => rfl), hws, fun x hx => Nat.le_succ_of_le (h.rd x hx), hcm, hinc⟩
  by_cases c2 : c = 2
  · rw [if_pos c2]
    split
    · exact same
    · refine ⟨hnc c1, by rw [List.length_set]; exact h.sl, hlive v.now c1 (fun _ => rfl), hws, fun x hx => ?_, hcm, hinc⟩
      rcases List.mem_or_eq_of_mem_set hx with hx | hx
      · exact Nat.le_succ_of_le (h.rd x hx)
      · subst hx
        dsimp only
        rw [List.length_append, List.length_singleton]
        have : (v.sights.getD (v.now t).tri Sg.zero).reads.length ≤ k := by
          rw [List.getD_eq_getElem?_getD]
          cases hg : v.sights[(v.now t).tri]? with
          | none => simp [Sg.zero]
          | some y => exact h.rd y (List.mem_of_getElem? hg)
        omega
  rw [if_neg c2]
  by_cases c3 : c = 3
  · rw [if_pos c3]
    have had : 0 ≤ ad ∧ ad < (size : Int) := by
      refine ⟨he.2.2.1.1, ?_⟩
      subst c3
      unfold farE at hf
      simp at hf
      omega
    refine ⟨hnc c1, h.sl, hlive _ c1 (fun j => ?_), fun j hj => ?_, fun x hx => Nat.le_succ_of_le (h.rd x hx), hcm, hinc⟩
    · dsimp only
      by_cases hjt : j = t
      · subst hjt; rw [upd_at]
      · rw [upd_ne _ _ hjt]
    · dsimp only
      by_cases hjt : j = t
      · subst hjt
        rw [upd_at]
        dsimp only
        refine ⟨fun p hp => ?_, by rw [List.length_append]; have := (h.ws j hj).2; simp; omega⟩
        rcases List.mem_append.1 hp with hp | hp
        · exact (h.ws j hj).1 p hp
        · rw [List.mem_singleton] at hp; subst hp; exact had
      · rw [upd_ne _ _ hjt]; exact hws j hj
  rw [if_neg c3]
  by_cases c5 : c = 5
  · rw [if_pos c5]
    refine ⟨hnc c1, h.sl, hlive _ c1 (fun j => ?_), fun j hj => ?_, fun x hx => Nat.le_succ_of_le (h.rd x hx), hcm, hinc⟩
    · dsimp only
      by_cases hjt : j = t
      · subst hjt; rw [upd_at]
      · rw [upd_ne _ _ hjt]
    · dsimp only
      by_cases hjt : j = t
      · subst hjt; rw [upd_at]; exact hws j hj
      · rw [upd_ne _ _ hjt]; exact hws j hj
  rw [if_neg c5]
  split
  · refine ⟨hnc c1, h.sl, hlive v.now c1 (fun _ => rfl), hws, fun x hx => Nat.le_succ_of_le (h.rd x hx), by have := h.cm; dsimp only; omega, ?_⟩
    exact putAll_inc (Nat.le_succ v.commits) fun a ha => (hinc a ha).mono (Nat.le_succ _)
  · exact same
end Go.Proofs.Ytloiadhdkgkjkaa
