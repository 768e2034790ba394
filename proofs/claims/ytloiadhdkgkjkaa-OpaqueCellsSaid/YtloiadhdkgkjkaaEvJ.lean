/- The look over a history in memory: one store at a time. -/
import Derived.Test.YtloiadhdkgkjkaaEvC
namespace Go.Proofs.Ytloiadhdkgkjkaa
open Go.RowKit
set_option maxHeartbeats 4000000
set_option linter.unusedVariables false
set_option linter.unusedSimpArgs false

def St.setT (s : St) (t : Nat) (x : Th) : St := ⟨fun k => if k = t then x else s.th k, s.num, s.hold, s.tries⟩
def St.setL (s : St) (l : List Tr) : St := ⟨s.th, s.num, s.hold, l⟩
def St.setN (s : St) (a : Int) : St := ⟨s.th, a, s.hold, s.tries⟩
def St.setH (s : St) (a : Int) : St := ⟨s.th, s.num, a, s.tries⟩
theorem St.setT_at (s : St) (t : Nat) (x : Th) : (s.setT t x).th t = x := by simp [St.setT]
theorem St.setT_ne (s : St) {t k : Nat} (x : Th) (h : k ≠ t) : (s.setT t x).th k = s.th k := by simp [St.setT, h]
theorem gL_th {s : St} {m m' : Nat → Option Nat} {tv : Value} {t c : Nat} {v : Value} {x : Th} (ht : t < 8) (hc : c < 4) (hm : ∀ k, k ≠ t → m' k = m k) (h1 : thv x (m' t) c = v) (h2 : ∀ d, d < 4 → d ≠ c → thv x (m' t) d = thv (s.th t) (m t) d) :
    ∀ j, j < 87 → (if j = 52 + t * 4 + c then v else gL s m tv j) = gL (s.setT t x) m' tv j := by
  intro j hj
  unfold gL St.setT
  dsimp only
  by_cases h52 : j < 52
  · rw [if_neg (by omega), if_pos h52, if_pos h52]
  rw [if_neg h52, if_neg h52]
  by_cases h84 : j < 84
  · rw [if_pos h84, if_pos h84]
    by_cases hq : (j - 52) / 4 = t
    · rw [if_pos hq, hq]
      by_cases hr : (j - 52) % 4 = c
      · rw [if_pos (by omega), hr, h1]
      · rw [if_neg (by omega), h2 _ (by omega) hr]
    · rw [if_neg (by omega), if_neg hq, hm _ hq]
  · rw [if_neg (by omega), if_neg h84, if_neg h84]
section
variable {B b n : Nat} {w : World} {s : St} {m : Nat → Option Nat} {tv : Value}
theorem LookW.ne_tries (h : LookW B w b s n m tv) : ¬ own tv b := h.tries.ne_ h.blk (by decide)
theorem LookW.mono (h : LookW B w b s n m tv) {n' : Nat} (hn : n ≤ n') : LookW B w b s n' m tv :=
  ⟨h.blk, h.tries, fun t ht hl => let ⟨mb, a, b, c⟩ := h.maps t ht hl; ⟨mb, a, b, c.mono hn⟩, h.apart, h.geb, h.get⟩
theorem LookW.alloc (h : LookW B w b s n m tv) (o : Obj) : LookW B (w.alloc o) b s n m tv := h.keep fun k _ hk => Below.heap_alloc w o k hk
theorem LookW.drewN (h : LookW B w b s n m tv) (j : Nat) : LookW B (w.drewN j) b s n m tv := h.keep fun _ _ _ => rfl
/-- A store into the look itself that turns no map's place. -/
theorem LookW.setB (h : LookW B w b s n m tv) (i : Nat) (v : Value) {s' : St} (hg : ∀ j, j < 87 → (if j = i then v else gL s m tv j) = gL s' m tv j) (htr : s'.tries = s.tries)
    (hm : ∀ t, t < 8 → liveT (s'.th t) → ∃ mb, m t = some mb ∧ B ≤ mb ∧ Mp w mb .u64 n (wfun (s'.th t).ws)) (ha : ∀ t t', t < 8 → t' < 8 → liveT (s'.th t) → liveT (s'.th t') → t ≠ t' → m t ≠ m t') : LookW B (w.setCell ⟨b, i, none⟩ v) b s' n m tv where
  blk := (h.blk.fset i v).fcongr hg
  tries := by rw [htr]; exact h.tries.set h.ne_tries v
  maps := fun t ht hl => let ⟨mb, a, b', c⟩ := hm t ht hl; ⟨mb, a, b', c.far (c.ne_ h.blk) v⟩
  apart := ha
  geb := h.geb
  get := h.get
theorem LookW.setSn (h : LookW B w b s n m tv) {t : Nat} (ht : t < 8) (x : Int) : LookW B (w.setCell ⟨b, 52 + t * 4 + 1, none⟩ (.int .u64 x)) b (s.setT t ⟨(s.th t).how, x, (s.th t).ws, (s.th t).tr⟩) n m tv := by
  have e : ∀ k, ((s.setT t ⟨(s.th t).how, x, (s.th t).ws, (s.th t).tr⟩).th k).how = (s.th k).how ∧ ((s.setT t ⟨(s.th t).how, x, (s.th t).ws, (s.th t).tr⟩).th k).ws = (s.th k).ws := fun k => by
    by_cases hk : k = t
    · subst hk; rw [St.setT_at]; exact ⟨rfl, rfl⟩
    · rw [St.setT_ne _ _ hk]; exact ⟨rfl, rfl⟩
  refine h.setB _ _ (gL_th ht (by decide) (fun _ _ => rfl) rfl fun d hd hne => ?_) rfl (fun t' ht' hl => ?_) fun t1 t2 h1 h2 l1 l2 hne => ?_
  · unfold thv; rw [if_neg hne, if_neg hne]
  · rw [(e t').2]
    exact h.maps t' ht' (by unfold liveT at *; rwa [(e t').1] at hl)
  · exact h.apart t1 t2 h1 h2 (by unfold liveT at *; rwa [(e t1).1] at l1) (by unfold liveT at *; rwa [(e t2).1] at l2) hne
theorem LookW.setTr (h : LookW B w b s n m tv) {t : Nat} (ht : t < 8) (x : Nat) : LookW B (w.setCell ⟨b, 52 + t * 4 + 3, none⟩ (.int .i64 x)) b (s.setT t ⟨(s.th t).how, (s.th t).sn, (s.th t).ws, x⟩) n m tv := by
  have e : ∀ k, ((s.setT t ⟨(s.th t).how, (s.th t).sn, (s.th t).ws, x⟩).th k).how = (s.th k).how ∧ ((s.setT t ⟨(s.th t).how, (s.th t).sn, (s.th t).ws, x⟩).th k).ws = (s.th k).ws := fun k => by
    by_cases hk : k = t
    · subst hk; rw [St.setT_at]; exact ⟨rfl, rfl⟩
    · rw [St.setT_ne _ _ hk]; exact ⟨rfl, rfl⟩
  refine h.setB _ _ (gL_th ht (by decide) (fun _ _ => rfl) rfl fun d hd hne => ?_) rfl (fun t' ht' hl => ?_) fun t1 t2 h1 h2 l1 l2 hne => ?_
  · unfold thv
    obtain rfl | rfl | rfl : d = 0 ∨ d = 1 ∨ d = 2 := by omega
    all_goals rfl
  · rw [(e t').2]
    exact h.maps t' ht' (by unfold liveT at *; rwa [(e t').1] at hl)
  · exact h.apart t1 t2 h1 h2 (by unfold liveT at *; rwa [(e t1).1] at l1) (by unfold liveT at *; rwa [(e t2).1] at l2) hne
/-- How the thread is turns; where it lives then, its map is there. -/
theorem LookW.setHow (h : LookW B w b s n m tv) {t : Nat} (ht : t < 8) (x : Nat) (hl : x = 1 ∨ x = 2 → (∃ mb, m t = some mb ∧ B ≤ mb ∧ Mp w mb .u64 n (wfun (s.th t).ws)) ∧ ∀ k, k < 8 → k ≠ t → liveT (s.th k) → m k ≠ m t) :
    LookW B (w.setCell ⟨b, 52 + t * 4, none⟩ (.int .i64 x)) b (s.setT t ⟨x, (s.th t).sn, (s.th t).ws, (s.th t).tr⟩) n m tv := by
  refine h.setB _ _ (gL_th (c := 0) ht (by decide) (fun _ _ => rfl) rfl fun d hd hne => ?_) rfl (fun t' ht' hl' => ?_) fun t1 t2 h1 h2 l1 l2 hne => ?_
  · unfold thv
    obtain rfl | rfl | rfl : d = 1 ∨ d = 2 ∨ d = 3 := by omega
    all_goals rfl
  · by_cases hk : t' = t
    · subst hk
      rw [St.setT_at] at hl' ⊢
      exact (hl hl').1
    · rw [St.setT_ne _ _ hk] at hl' ⊢
      exact h.maps t' ht' hl'
  · by_cases k1 : t1 = t
    · subst k1
      rw [St.setT_at] at l1
      rw [St.setT_ne _ _ (Ne.symm hne)] at l2
      exact ((hl l1).2 t2 h2 (Ne.symm hne) l2).symm
    · rw [St.setT_ne _ _ k1] at l1
      by_cases k2 : t2 = t
      · subst k2
        rw [St.setT_at] at l2
        exact (hl l2).2 t1 h1 k1 l1
      · rw [St.setT_ne _ _ k2] at l2
        exact h.apart t1 t2 h1 h2 l1 l2 hne
/-- A new map of writes, of a thread that does not live yet. -/
theorem LookW.setWs (h : LookW B w b s n m tv) {t : Nat} (ht : t < 8) (hnl : ¬ liveT (s.th t)) (x : Option Nat) (ws : List (Int × Int)) : LookW B (w.setCell ⟨b, 52 + t * 4 + 2, none⟩ (.map x)) b (s.setT t ⟨(s.th t).how, (s.th t).sn, ws, (s.th t).tr⟩) n (fun k => if k = t then x else m k) tv where
  blk := (h.blk.fset _ _).fcongr (gL_th ht (by decide) (fun k hk => by rw [if_neg hk]) (by simp [thv]) fun d hd hne => by
    unfold thv
    obtain rfl | rfl | rfl : d = 0 ∨ d = 1 ∨ d = 3 := by omega
    all_goals rfl)
  tries := h.tries.set h.ne_tries _
  maps := fun t' ht' hl => by
    by_cases hk : t' = t
    · subst hk
      rw [St.setT_at] at hl
      exact absurd hl hnl
    · rw [St.setT_ne _ _ hk] at hl ⊢
      obtain ⟨mb, a, b', c⟩ := h.maps t' ht' hl
      exact ⟨mb, by rw [if_neg hk]; exact a, b', c.far (c.ne_ h.blk) _⟩
  apart := fun t1 t2 h1 h2 l1 l2 hne => by
    have n1 : t1 ≠ t := fun e => by subst e; rw [St.setT_at] at l1; exact hnl l1
    have n2 : t2 ≠ t := fun e => by subst e; rw [St.setT_at] at l2; exact hnl l2
    rw [St.setT_ne _ _ n1] at l1
    rw [St.setT_ne _ _ n2] at l2
    rw [if_neg n1, if_neg n2]
    exact h.apart t1 t2 h1 h2 l1 l2 hne
  geb := h.geb
  get := h.get
theorem LookW.setNum (h : LookW B w b s n m tv) (x : Int) : LookW B (w.setCell ⟨b, 84, none⟩ (.int .u64 x)) b (s.setN x) n m tv :=
  h.setB _ _ (fun j hj => by
    unfold gL St.setN
    dsimp only
    by_cases e : j = 84
    · subst e; rfl
    · rw [if_neg e]
      simp [e]) rfl h.maps h.apart
theorem LookW.setHold (h : LookW B w b s n m tv) (x : Int) : LookW B (w.setCell ⟨b, 85, none⟩ (.int .i64 x)) b (s.setH x) n m tv :=
  h.setB _ _ (fun j hj => by
    unfold gL St.setH
    dsimp only
    by_cases e : j = 85
    · subst e; rfl
    · rw [if_neg e]
      simp [e]) rfl h.maps h.apart
/-- The slice of attempts turns. -/
theorem LookW.setTv (h : LookW B w b s n m tv) {tv' : Value} {l : List Tr} (hS : Sl 38 7 encT w tv' l) (hB : ∀ k, own tv' k → B ≤ k) : LookW B (w.setCell ⟨b, 86, none⟩ tv') b (s.setL l) n m tv' where
  blk := (h.blk.fset _ _).fcongr fun j hj => by
    unfold gL St.setL
    dsimp only
    by_cases e : j = 86
    · subst e; rfl
    · rw [if_neg e]
      repeat' split
      all_goals first | rfl | omega
  tries := hS.set (hS.ne_ h.blk (by decide)) _
  maps := fun t ht hl => let ⟨mb, a, b', c⟩ := h.maps t ht hl; ⟨mb, a, b', c.far (c.ne_ h.blk) _⟩
  apart := h.apart
  geb := h.geb
  get := hB
/-- A store into an attempt. -/
theorem LookW.setX {g off len cap tr : Nat} (h : LookW B w b s n m (.slice (some ⟨g, off, none⟩) len cap)) (hi : tr < s.tries.length) {j : Nat} (hj : j < 7) (u : Value) (x' : Tr) (hx : encT x' = (encT (s.tries[tr]'hi)).set j u) :
    LookW B (w.setCell ⟨g, off + tr * 7 + j, none⟩ u) b (s.setL (s.tries.set tr x')) n m (.slice (some ⟨g, off, none⟩) len cap) where
  blk := by
    have hne := h.ne_tries
    exact (h.blk.far (p := ⟨g, off + tr * 7 + j, none⟩) (fun e => hne (by simp [own, Value.ownBlock, e])) u).fcongr fun j _ => rfl
  tries := by
    have := h.tries.upd encT_len hi hj u x' hx
    rw [Nat.add_assoc]
    exact this
  maps := fun t ht hl => by
    obtain ⟨mb, a, b', c⟩ := h.maps t ht hl
    refine ⟨mb, a, b', c.far (fun e => c.ne_row h.tries ?_) u⟩
    simp [Value.ownBlock, e]
  apart := h.apart
  geb := h.geb
  get := h.get
theorem LookW.c_x {g off len cap tr : Nat} (h : LookW B w b s n m (.slice (some ⟨g, off, none⟩) len cap)) (hi : tr < s.tries.length) {j : Nat} (hj : j < 7) : w.cell? ⟨g, off + tr * 7 + j, none⟩ = (encT (s.tries[tr]'hi))[j]? ∧ w.frozen? ⟨g, off + tr * 7 + j, none⟩ = false := by
  obtain ⟨g', off', e, _, hc⟩ := h.tries.cell encT_len (by decide) hi
  injection e with e
  injection e with e1 e2
  subst e1 e2
  rw [Nat.add_assoc]
  exact hc tr hi j hj
section
variable {t : Nat} {x : Th}
theorem LookW.c_how (h : LookW B w b s n m tv) (ht : t < 8) (hx : s.th t = x) : w.cell? ⟨b, 52 + t * 4, none⟩ = some (.int .i64 x.how) := (h.blk.fcell (by omega)).trans (by rw [gL_how ht, hx])
theorem LookW.c_sn (h : LookW B w b s n m tv) (ht : t < 8) (hx : s.th t = x) : w.cell? ⟨b, 52 + t * 4 + 1, none⟩ = some (.int .u64 x.sn) := (h.blk.fcell (by omega)).trans (by rw [gL_sn ht, hx])
theorem LookW.c_ws (h : LookW B w b s n m tv) (ht : t < 8) {mp : Option Nat} (hx : m t = mp) : w.cell? ⟨b, 52 + t * 4 + 2, none⟩ = some (.map mp) := (h.blk.fcell (by omega)).trans (by rw [gL_ws ht, hx])
theorem LookW.c_tr (h : LookW B w b s n m tv) (ht : t < 8) (hx : s.th t = x) : w.cell? ⟨b, 52 + t * 4 + 3, none⟩ = some (.int .i64 x.tr) := (h.blk.fcell (by omega)).trans (by rw [gL_tr ht, hx])
theorem LookW.c_num (h : LookW B w b s n m tv) : w.cell? ⟨b, 84, none⟩ = some (.int .u64 s.num) := h.blk.fcell (i := 84) (by omega)
theorem LookW.c_hold (h : LookW B w b s n m tv) : w.cell? ⟨b, 85, none⟩ = some (.int .i64 s.hold) := h.blk.fcell (i := 85) (by omega)
theorem LookW.c_tv (h : LookW B w b s n m tv) : w.cell? ⟨b, 86, none⟩ = some tv := h.blk.fcell (i := 86) (by omega)
theorem LookW.c_tb (h : LookW B w b s n m tv) {i hw k a : Nat} (hh : hw < 4) (hk : k < 13) (hi : i = hw * 13 + k) (ha : tb hw k = a) : w.cell? ⟨b, i, none⟩ = some (.int .i64 a) := by
  subst hi
  exact (h.blk.fcell (by omega)).trans (by rw [gL_tb hh hk, ha])
theorem LookW.fz (h : LookW B w b s n m tv) (i : Nat) : w.frozen? ⟨b, i, none⟩ = false := h.blk.frozen i
end
/-- A write laid into its map. -/
theorem LookW.put {w' : World} {t mb : Nat} (h : LookW B w b s n m tv) (ht : t < 8) (hl : liveT (s.th t)) (hm : m t = some mb) (hg : w.grownBy w' (some mb)) {ad wd : Int} (hM : Mp w' mb .u64 (n + 1) (fun k => if k = ad then some (.int .u64 wd) else wfun (s.th t).ws k)) :
    LookW B w' b (s.setT t ⟨(s.th t).how, (s.th t).sn, (s.th t).ws ++ [(ad, wd)], (s.th t).tr⟩) (n + 1) m tv := by
  obtain ⟨mb', hm', hB', hM'⟩ := h.maps t ht hl
  obtain rfl : mb' = mb := by rw [hm] at hm'; injection hm' with e; exact e.symm
  have hnb := hM'.ne_ h.blk
  have e : ∀ k, ((s.setT t ⟨(s.th t).how, (s.th t).sn, (s.th t).ws ++ [(ad, wd)], (s.th t).tr⟩).th k).how = (s.th k).how := fun k => by
    by_cases hk : k = t
    · subst hk; rw [St.setT_at]
    · rw [St.setT_ne _ _ hk]
  refine ⟨?_, ?_, fun t' ht' hl' => ?_, fun t1 t2 h1 h2 l1 l2 hne => ?_, h.geb, h.get⟩
  · refine (h.blk.grown hg (fun e => hnb (by injection e with e; exact e.symm))).fcongr fun j hj => ?_
    unfold gL St.setT
    dsimp only
    by_cases hq : (j - 52) / 4 = t
    · rw [if_pos hq, hq]
      have : thv ⟨(s.th t).how, (s.th t).sn, (s.th t).ws ++ [(ad, wd)], (s.th t).tr⟩ (m t) ((j - 52) % 4) = thv (s.th t) (m t) ((j - 52) % 4) := rfl
      rw [this]
    · rw [if_neg hq]
  · exact h.tries.keep fun k hk => hg.block k (h.tries.lt k hk) fun e => by
      injection e with e
      subst e
      exact hM'.ne_row h.tries hk
  · by_cases hk : t' = t
    · subst hk
      refine ⟨mb', hm, hB', hM.congr fun k => ?_⟩
      rw [St.setT_at]
      unfold wfun
      dsimp only
      rw [written_snoc]
      by_cases hka : k = ad
      · rw [if_pos hka.symm, if_pos hka]; rfl
      · rw [if_neg (fun e => hka e.symm), if_neg hka]
    · have hl2 : liveT (s.th t') := by unfold liveT at *; rwa [e t'] at hl'
      obtain ⟨mb2, a2, b2, c2⟩ := h.maps t' ht' hl2
      rw [St.setT_ne _ _ hk]
      refine ⟨mb2, a2, b2, (c2.keep (hg.block mb2 c2.lt fun e => ?_)).mono (by omega)⟩
      injection e with e
      subst e
      exact h.apart t' t ht' ht hl2 hl hk (by rw [a2, hm])
  · exact h.apart t1 t2 h1 h2 (by unfold liveT at *; rwa [e t1] at l1) (by unfold liveT at *; rwa [e t2] at l2) hne
end
theorem modify_set {α : Type} (f : α → α) : ∀ (l : List α) (i : Nat) (h : i < l.length), l.modify i f = l.set i (f (l[i]'h))
  | x :: l, 0, h => by simp
  | x :: l, i + 1, h => by
    rw [List.modify_succ_cons, modify_set f l i (by simpa using h)]
    rfl
theorem take_in {s : St} {t i : Nat} {e : Ev} {T : Th} (hth : s.th t = T) (hx : T.tr < s.tries.length) (hne : T.how ≠ 0) (hk : e.kd ≠ 1) (he : e.th = (t : Int)) :
    take s i e = ⟨fun j => if j = t then tkT T e s.tries.length else s.th j, if e.kd = 6 ∧ T.how = 2 then e.wd else s.num, if e.kd = 5 then e.th else if e.kd = 6 ∧ T.how = 2 then -1 else s.hold, s.tries.set T.tr (updT (s.tries[T.tr]'hx) i e)⟩ := by
  unfold take
  dsimp only
  rw [he, Int.toNat_natCast, hth, if_pos (show T.how ≠ 0 ∨ e.kd = 1 from .inl hne)]
  have e1 : (tkT T e s.tries.length).tr = T.tr := by unfold tkT; simp [hk]
  rw [if_neg hk, e1, modify_set _ _ _ hx]
end Go.Proofs.Ytloiadhdkgkjkaa
