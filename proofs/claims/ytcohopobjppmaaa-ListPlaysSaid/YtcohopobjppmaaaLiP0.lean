/- Lists in a room: what stands, and what each call makes of it. No program in sight. -/
import Derived.Test.YtcohopobjppmaaaLiW0
namespace Go.Proofs.Ytcohopobjppmaaa
open Go.RowKit
set_option linter.unusedVariables false
set_option linter.unusedSimpArgs false

/-! ## cells -/
def ca (W : List Int) (a : Int) : Int := W.getD a.toNat 0
theorem ca_ne {W : List Int} {a b x : Int} (ha : 0 ≤ a) (hb : 0 ≤ b) (h : b ≠ a) : ca (W.set a.toNat x) b = ca W b := by
  unfold ca
  rw [List.getD_eq_getElem?_getD, List.getD_eq_getElem?_getD, List.getElem?_set_ne (by omega)]
theorem ca_eq {W : List Int} {a x : Int} (ha : 0 ≤ a) (hl : a < W.length) : ca (W.set a.toNat x) a = x := by
  unfold ca
  rw [List.getD_eq_getElem?_getD, List.getElem?_set_self (by omega)]
  rfl
def gt1 (s : St) : St := { s with gets := s.gets + 1 }
def pt1 (s : St) (a x : Int) : St := { s with puts := s.puts + 1, W := s.W.set a.toNat x }
theorem sg {s : St} {a : Int} (hf : s.fail < 0) (ha : a < s.W.length) : sget s a = (ca s.W a, 0, gt1 s) := by
  unfold sget
  rw [if_neg (by unfold fls; omega), if_neg (by omega)]
  rfl
theorem sp {s : St} {a : Int} (x : Int) (hf : s.fail < 0) (ha : a < s.W.length) : sput s a x = (0, pt1 s a x) := by
  unfold sput
  rw [if_neg (by unfold fls; omega), if_neg (by omega)]
  rfl
theorem hg {s : St} {a : Int} (hf : s.fail < 0) (ha : a < s.W.length) : hget s 0 a = (ca s.W a, 0, gt1 s) := hget_ok (sg hf ha)
theorem hp {s : St} {a : Int} (x : Int) (hf : s.fail < 0) (ha : a < s.W.length) : hput s 0 a x = (0, pt1 s a x) := (hput_ok s a x).trans (sp x hf ha)
/-- only asked -/
structure Lkd (s s' : St) : Prop where
  W : s'.W = s.W
  puts : s'.puts = s.puts
  fail : s'.fail = s.fail
  err : s'.err = s.err
theorem Lkd.refl (s : St) : Lkd s s := ⟨rfl, rfl, rfl, rfl⟩
theorem Lkd.trans {s s1 s2 : St} (h : Lkd s s1) (k : Lkd s1 s2) : Lkd s s2 := ⟨k.W.trans h.W, k.puts.trans h.puts, k.fail.trans h.fail, k.err.trans h.err⟩
theorem Lkd.get (s : St) : Lkd s (gt1 s) := ⟨rfl, rfl, rfl, rfl⟩
theorem uA {l : Int} (h0 : 0 ≤ l) (h1 : l ≤ 1000) : uAdd l 1 = l + 1 := by unfold uAdd; rw [wrap_u64_mod]; omega
theorem uS {l : Int} (h0 : 1 ≤ l) (h1 : l ≤ 1000) : IntKind.u64.wrap (l - 1) = l - 1 := by rw [wrap_u64_mod]; omega

/-! ## runs of nodes -/
def hdt : List (Int × Int) → Int → Int
  | [], t => t
  | (p, _) :: _, _ => p + 1
def Run (W : List Int) : List (Int × Int) → Int → Prop
  | [], _ => True
  | (p, k) :: r, t => ca W p = k ∧ ca W (p + 1) = hdt r t ∧ Run W r t
theorem hdt_append (A B : List (Int × Int)) (t : Int) : hdt (A ++ B) t = hdt A (hdt B t) := by cases A <;> rfl
theorem run_append {W : List Int} (A B : List (Int × Int)) (t : Int) : Run W (A ++ B) t ↔ Run W A (hdt B t) ∧ Run W B t := by
  induction A with
  | nil => simp [Run]
  | cons x A ih =>
    obtain ⟨p, k⟩ := x
    show (_ ∧ _ = hdt (A ++ B) t ∧ Run W (A ++ B) t) ↔ (_ ∧ _ ∧ _) ∧ _
    rw [ih, hdt_append]
    constructor
    · rintro ⟨a, b, c, d⟩; exact ⟨⟨a, b, c⟩, d⟩
    · rintro ⟨⟨a, b, c⟩, d⟩; exact ⟨a, b, c, d⟩
theorem run_keep {W W' : List Int} {t : Int} : ∀ {A : List (Int × Int)}, (∀ x ∈ A, ca W' x.1 = ca W x.1 ∧ ca W' (x.1 + 1) = ca W (x.1 + 1)) → Run W A t → Run W' A t
  | [], _, _ => trivial
  | (p, k) :: A, h, ⟨a, b, c⟩ => ⟨(h (p, k) (by simp)).1.trans a, (h (p, k) (by simp)).2.trans b, run_keep (fun x hx => h x (List.mem_cons_of_mem _ hx)) c⟩
def hdf : List Int → Int
  | [] => 0
  | f :: _ => f + 1
def Frun (W : List Int) : List Int → Prop
  | [] => True
  | f :: r => ca W f = hdf r ∧ Frun W r
theorem frun_keep {W W' : List Int} : ∀ {A : List Int}, (∀ x ∈ A, ca W' x = ca W x) → Frun W A → Frun W' A
  | [], _, _ => trivial
  | f :: A, h, ⟨a, b⟩ => ⟨(h f (by simp)).trans a, frun_keep (fun x hx => h x (List.mem_cons_of_mem _ hx)) b⟩

/-! ## the room -/
structure Room (W : List Int) (n : Int) (bs fs : List Int) : Prop where
  len : (W.length : Int) = n
  n1 : 22 ≤ n
  n2 : n ≤ 200
  end_ : ca W 1 = n
  nx : ca W 0 = 18 + 2 * ((bs.length + fs.length : Nat) : Int)
  le : 18 + 2 * ((bs.length + fs.length : Nat) : Int) ≤ n
  nodup : (bs ++ fs).Nodup
  mem : ∀ p ∈ bs ++ fs, 18 ≤ p ∧ p + 1 < 18 + 2 * ((bs.length + fs.length : Nat) : Int) ∧ p % 2 = 0
  head : ca W 3 = hdf fs
  free : Frun W fs
theorem Room.perm {W : List Int} {n : Int} {bs bs' fs : List Int} (h : Room W n bs fs) (hp : bs.Perm bs') : Room W n bs' fs := by
  have e := hp.length_eq
  refine ⟨h.len, h.n1, h.n2, h.end_, by rw [h.nx, e], by rw [← e]; exact h.le, ((hp.append_right fs).nodup_iff).1 h.nodup, fun p hq => ?_, h.head, h.free⟩
  rw [← e]
  exact h.mem p ((hp.append_right fs).mem_iff.2 hq)
/-- what has turned in cells that are out -/
theorem Room.turn {W W' : List Int} {n : Int} {bs fs : List Int} (h : Room W n bs fs) (hl : W'.length = W.length) (hk : ∀ a, 0 ≤ a → (a < 18 ∨ a ∈ fs) → ca W' a = ca W a) : Room W' n bs fs :=
  ⟨by rw [hl]; exact h.len, h.n1, h.n2, by rw [hk 1 (by omega) (.inl (by omega))]; exact h.end_, by rw [hk 0 (by omega) (.inl (by omega))]; exact h.nx, h.le, h.nodup, h.mem, by rw [hk 3 (by omega) (.inl (by omega))]; exact h.head,
    frun_keep (fun x hx => hk x (by have := (h.mem x (by simp [hx])).1; omega) (.inr hx)) h.free⟩
def spc (W : List Int) (n : Int) (fs : List Int) : Prop := fs ≠ [] ∨ ca W 0 + 2 ≤ n
theorem spc_used {W : List Int} {n : Int} {bs fs : List Int} (h : Room W n bs fs) {u : Nat} (hu : bs.length = u + 2) : (u : Int) < (n - 22) / 2 ↔ spc W n fs := by
  have h1 := h.nx; have h2 := h.le; have h3 := h.n1
  unfold spc
  rw [h1]
  cases fs with
  | nil => simp at *; omega
  | cons f fs => simp at *; omega
structure Took (s s' : St) (n p : Int) (bs fs' : List Int) : Prop where
  room : Room s'.W n (p :: bs) fs'
  fresh : p ∉ bs
  keep : ∀ a, 4 ≤ a → ca s'.W a = ca s.W a
  fail : s'.fail = s.fail
  err : s'.err = s.err
theorem take_ok {s : St} {n : Int} {bs fs : List Int} (h : Room s.W n bs fs) (hf : s.fail < 0) (hs : spc s.W n fs) : ∃ p s' fs', rTake s 0 2 = (p, 0, s') ∧ Took s s' n p bs fs' := by
  have h1 := h.len; have h2 := h.n1; have h3 := h.n2
  have hu : uAdd (uAdd 0 1) 2 = 3 := by decide
  have hu1 : uAdd 0 1 = 1 := by decide
  unfold rTake
  rw [if_neg (by omega), hu, sg hf (by omega)]
  simp only
  rw [if_pos (by simp)]
  cases fs with
  | nil =>
    have hx : ca s.W 3 = 0 := h.head
    have hr : ca s.W 0 + 2 ≤ n := hs.elim (fun h => absurd rfl h) id
    have hnx := h.nx
    rw [hx, if_pos (by simp), sg (s := gt1 s) hf (by show (0 : Int) < s.W.length; omega)]
    simp only
    rw [if_pos (by simp), hu1, sg (s := gt1 (gt1 s)) hf (by show (1 : Int) < s.W.length; omega)]
    simp only
    rw [if_pos (by simp)]
    have e1 : ca (gt1 (gt1 s)).W 1 = n := h.end_
    have e0 : ca (gt1 s).W 0 = ca s.W 0 := rfl
    rw [e1, e0, if_neg (by omega), sp (s := gt1 (gt1 (gt1 s))) _ hf (by show (0 : Int) < s.W.length; omega)]
    simp only
    rw [if_pos (by simp)]
    have hle := h.le
    have hp0 : ca s.W 0 ∉ bs ++ [] := fun hc => by
      have := h.mem _ hc
      omega
    have hmem := h.mem
    have hnd := h.nodup
    simp only [List.append_nil, List.length_nil, Nat.add_zero] at hp0 hnx hmem hnd hle
    have hw : ∀ a, 1 ≤ a → ca (pt1 (gt1 (gt1 (gt1 s))) 0 (ca s.W 0 + 2)).W a = ca s.W a := fun a ha => ca_ne (by omega) (by omega) (by omega)
    have hw0 : ca (pt1 (gt1 (gt1 (gt1 s))) 0 (ca s.W 0 + 2)).W 0 = ca s.W 0 + 2 := ca_eq (by omega) (by show (0 : Int) < s.W.length; omega)
    refine ⟨_, _, [], rfl, ⟨?_, h2, h3, ?_, ?_, ?_, ?_, ?_, ?_, trivial⟩, hp0, fun a ha => hw a (by omega), rfl, rfl⟩
    · show ((s.W.set _ _).length : Int) = n
      rw [List.length_set]; exact h1
    · rw [hw 1 (by omega)]; exact h.end_
    · rw [hw0]; simp; omega
    · simp; omega
    · rw [List.append_nil]; exact List.nodup_cons.2 ⟨hp0, hnd⟩
    · intro p hp
      rw [List.append_nil] at hp
      rcases List.mem_cons.1 hp with rfl | hp
      · simp; omega
      · have := hmem p hp; simp; omega
    · rw [hw 3 (by omega)]; exact hx
  | cons f fs =>
    have hx : ca s.W 3 = f + 1 := h.head
    have hfm := h.mem f (by simp)
    have hle := h.le
    have hfr := h.free
    rw [hx, if_neg (by simp; omega), uS (by omega) (by omega), show f + 1 - 1 = f by omega, sg (s := gt1 s) hf (by show f < s.W.length; omega)]
    simp only
    rw [if_pos (by simp), sp (s := gt1 (gt1 s)) _ hf (by show (3 : Int) < s.W.length; omega)]
    simp only
    rw [if_pos (by simp)]
    have e1 : ca (gt1 s).W f = hdf fs := hfr.1
    rw [e1]
    have hw : ∀ a, 0 ≤ a → a ≠ 3 → ca (pt1 (gt1 (gt1 s)) 3 (hdf fs)).W a = ca s.W a := fun a ha hn => ca_ne (by omega) (by omega) (by omega)
    have hpm : (bs ++ f :: fs).Perm (f :: bs ++ fs) := List.perm_middle
    have hnd := (hpm.nodup_iff).1 h.nodup
    have hlen : bs.length + (f :: fs).length = (f :: bs).length + fs.length := by simp; omega
    refine ⟨f, _, fs, rfl, ⟨?_, h2, h3, ?_, ?_, ?_, hnd, ?_, ?_, ?_⟩, ?_, fun a ha => hw a (by omega) (by omega), rfl, rfl⟩
    · show ((s.W.set _ _).length : Int) = n
      rw [List.length_set]; exact h1
    · rw [hw 1 (by omega) (by omega)]; exact h.end_
    · rw [hw 0 (by omega) (by omega), h.nx, hlen]
    · rw [← hlen]; exact h.le
    · intro p hp
      rw [← hlen]
      exact h.mem p (hpm.mem_iff.2 hp)
    · exact ca_eq (by omega) (by show (3 : Int) < s.W.length; omega)
    · exact frun_keep (fun x hx => hw x (by have := (h.mem x (by simp [hx])).1; omega) (by have := (h.mem x (by simp [hx])).1; omega)) hfr.2
    · intro hc
      exact (List.nodup_cons.1 hnd).1 (by simp [hc])
theorem take_no {s : St} {n : Int} {bs fs : List Int} (h : Room s.W n bs fs) (hf : s.fail < 0) (hs : ¬ spc s.W n fs) : ∃ s', rTake s 0 2 = (0, 9, s') ∧ Lkd s s' := by
  have h1 := h.len; have h2 := h.n1; have h3 := h.n2
  have hu : uAdd (uAdd 0 1) 2 = 3 := by decide
  have hu1 : uAdd 0 1 = 1 := by decide
  obtain rfl : fs = [] := Classical.byContradiction fun hc => hs (.inl hc)
  have hx : ca s.W 3 = 0 := h.head
  have hr : ¬ ca s.W 0 + 2 ≤ n := fun hc => hs (.inr hc)
  have hnx := h.nx
  have hle := h.le
  unfold rTake
  rw [if_neg (by omega), hu, sg hf (by omega)]
  simp only
  rw [if_pos (by simp), hx, if_pos (by simp), sg (s := gt1 s) hf (by show (0 : Int) < s.W.length; omega)]
  simp only
  rw [if_pos (by simp), hu1, sg (s := gt1 (gt1 s)) hf (by show (1 : Int) < s.W.length; omega)]
  simp only
  rw [if_pos (by simp)]
  have e1 : ca (gt1 (gt1 s)).W 1 = n := h.end_
  have e0 : ca (gt1 s).W 0 = ca s.W 0 := rfl
  rw [e1, e0, if_pos (by omega)]
  exact ⟨_, rfl, ⟨rfl, rfl, rfl, rfl⟩⟩
structure Gave (s s' : St) (n p : Int) (bs fs : List Int) : Prop where
  room : Room s'.W n bs (p :: fs)
  keep : ∀ a, 4 ≤ a → a ≠ p → ca s'.W a = ca s.W a
  fail : s'.fail = s.fail
  err : s'.err = s.err
theorem give_ok {s : St} {n p : Int} {bs fs : List Int} (h : Room s.W n (p :: bs) fs) (hf : s.fail < 0) : ∃ s', rGive s 0 p 2 = (0, s') ∧ Gave s s' n p bs fs := by
  have h1 := h.len; have h2 := h.n1; have h3 := h.n2
  have hu : uAdd (uAdd 0 1) 2 = 3 := by decide
  have hpm0 := h.mem p (by simp)
  have hle := h.le
  unfold rGive
  rw [if_neg (by omega), hu, sg hf (by omega)]
  simp only
  rw [if_pos (by simp), sp (s := gt1 s) _ hf (by show p < s.W.length; omega)]
  simp only
  rw [if_pos (by simp), uA (by omega) (by omega), sp (s := pt1 (gt1 s) p (ca s.W 3)) _ hf (by show (3 : Int) < ((s.W.set _ _).length : Int); rw [List.length_set]; omega)]
  have hw : ∀ a, 0 ≤ a → a ≠ 3 → a ≠ p → ca (pt1 (pt1 (gt1 s) p (ca s.W 3)) 3 (p + 1)).W a = ca s.W a := fun a ha h3 hp => (ca_ne (by omega) (by omega) (by omega)).trans (ca_ne (by omega) (by omega) (by omega))
  have hw3 : ca (pt1 (pt1 (gt1 s) p (ca s.W 3)) 3 (p + 1)).W 3 = p + 1 := ca_eq (by omega) (by show (3 : Int) < ((s.W.set _ _).length : Int); rw [List.length_set]; omega)
  have hwp : ca (pt1 (pt1 (gt1 s) p (ca s.W 3)) 3 (p + 1)).W p = ca s.W 3 := (ca_ne (by omega) (by omega) (by omega)).trans (ca_eq (by omega) (by show p < s.W.length; omega))
  have hpm : (bs ++ p :: fs).Perm (p :: bs ++ fs) := List.perm_middle
  have hlen : bs.length + (p :: fs).length = (p :: bs).length + fs.length := by simp; omega
  have hpn : p ∉ fs := fun hc => (List.nodup_cons.1 h.nodup).1 (by simp [hc])
  refine ⟨_, rfl, ⟨?_, h2, h3, ?_, ?_, ?_, (hpm.nodup_iff).2 h.nodup, ?_, hw3, ?_, ?_⟩, fun a ha hp => hw a (by omega) (by omega) hp, rfl, rfl⟩
  · show (((s.W.set _ _).set _ _).length : Int) = n
    rw [List.length_set, List.length_set]; exact h1
  · rw [hw 1 (by omega) (by omega) (by omega)]; exact h.end_
  · rw [hw 0 (by omega) (by omega) (by omega), h.nx, hlen]
  · rw [hlen]; exact h.le
  · intro x hx
    rw [hlen]
    exact h.mem x (hpm.mem_iff.1 hx)
  · rw [hwp]; exact h.head
  · exact frun_keep (fun x hx => hw x (by have := (h.mem x (by simp [hx])).1; omega) (by have := (h.mem x (by simp [hx])).1; omega) (by rintro rfl; exact hpn hx)) h.free

/-! ## a search -/
def lnk (a : Int) : List (Int × Int) → Int
  | [] => a
  | (x, _) :: r => lnk (x + 1) r
def asked (pre post : List (Int × Int)) : List Int := pre.map (·.2) ++ (post.head?.map (·.2)).toList
structure Found (s s' : St) (p' : Pl) (a : Int) (pre post : List (Int × Int)) : Prop where
  lkd : Lkd s s'
  from_ : p'.from_ = lnk a pre
  next : p'.next = hdt post 0
  key : ∀ x r, post = x :: r → p'.key = x.2
theorem fGo_run (q : Int → Bool) (count : Int) (post : List (Int × Int)) : ∀ (pre : List (Int × Int)) (last : Int) (p : Pl) (ks : List Int) (s : St) (k : Nat), s.fail < 0 → s.W.length ≤ 1000 → p.from_ < s.W.length → ca s.W p.from_ = hdt (pre ++ post) 0 → Run s.W (pre ++ post) 0 →
    (∀ x ∈ pre ++ post, 0 ≤ x.1 ∧ x.1 + 1 < s.W.length) → ((pre ++ post).map (·.2)).Pairwise (· < ·) → (∀ x ∈ pre ++ post, 0 < p.ahead → last < x.2) → 0 ≤ p.ahead → p.ahead + pre.length ≤ 1000 → count = p.ahead + ((pre ++ post).length : Nat) →
    (∀ x ∈ pre, q x.2 = true) → (∀ x r, post = x :: r → q x.2 = false) → pre.length < k →
    ∃ p' s', fGo q count k last p ks 0 s = some (p', ks ++ asked pre post, 0, s') ∧ Found s s' p' p.from_ pre post := by
  intro pre
  induction pre with
  | nil =>
    intro last p ks s k hf hW hfr hnx hrun hbd hris hla hah _ hct _ hq hk
    obtain ⟨k, rfl⟩ : ∃ m, k = m + 1 := ⟨k - 1, by simp at hk; omega⟩
    have h1 := hg hf hfr
    cases post with
    | nil =>
      rw [show ca s.W p.from_ = 0 from hnx] at h1
      rw [fGo_end h1, if_pos (by rw [hct]; simp)]
      exact ⟨{ p with next := 0 }, gt1 s, by simp [asked], Lkd.get s, rfl, rfl, fun x r h => by cases h⟩
    | cons y r =>
      obtain ⟨x, kx⟩ := y
      have hx := hbd (x, kx) (by simp)
      simp only at hx
      rw [show ca s.W p.from_ = x + 1 from hnx] at h1
      have h2 := hg (s := gt1 s) hf (show x < s.W.length by omega)
      rw [show ca (gt1 s).W x = kx from hrun.1] at h2
      rw [show x = IntKind.u64.wrap (x + 1 - 1) by rw [uS (by omega) (by omega)]; omega] at h2
      rw [fGo_stop h1 (by omega) h2 (by
        rintro (h | ⟨h, h'⟩)
        · rw [hct] at h; simp at h; omega
        · have := hla (x, kx) (by simp) h; simp at this; omega) (hq _ _ rfl)]
      exact ⟨{ p with next := x + 1, key := kx }, gt1 (gt1 s), by simp [asked], (Lkd.get s).trans (Lkd.get _), rfl, rfl, fun y r h => by cases h; rfl⟩
  | cons y pre ih =>
    intro last p ks s k hf hW hfr hnx hrun hbd hris hla hah hah2 hct hqp hq hk
    obtain ⟨k, rfl⟩ : ∃ m, k = m + 1 := ⟨k - 1, by simp at hk; omega⟩
    obtain ⟨x, kx⟩ := y
    have h1 := hg hf hfr
    have hx := hbd (x, kx) (by simp)
    simp only at hx
    rw [show ca s.W p.from_ = x + 1 from hnx] at h1
    have h2 := hg (s := gt1 s) hf (show x < s.W.length by omega)
    rw [show ca (gt1 s).W x = kx from hrun.1] at h2
    rw [show x = IntKind.u64.wrap (x + 1 - 1) by rw [uS (by omega) (by omega)]; omega] at h2
    have hp1 : uAdd p.ahead 1 = p.ahead + 1 := uA hah (by simp at hah2; omega)
    rw [fGo_on h1 (by omega) h2 (by
        rintro (h | ⟨h, h'⟩)
        · rw [hct] at h; simp at h; omega
        · have := hla (x, kx) (by simp) h; simp at this; omega) (hqp (x, kx) (by simp))]
    have hris' : (kx :: (pre ++ post).map (·.2)).Pairwise (· < ·) := by simpa using hris
    obtain ⟨hr1, hr2⟩ := List.pairwise_cons.1 hris'
    obtain ⟨p', s', h3, h4⟩ := ih kx { from_ := x + 1, next := x + 1, key := kx, ahead := uAdd p.ahead 1 } (ks ++ [kx]) (gt1 (gt1 s)) k hf hW (by show x + 1 < (s.W.length : Int); omega) hrun.2.1 hrun.2.2
      (fun z hz => hbd z (List.mem_cons_of_mem _ hz)) hr2 (fun z hz _ => hr1 z.2 (List.mem_map.2 ⟨z, hz, rfl⟩)) (by simp only [hp1]; omega) (by simp only [hp1]; simp at hah2; omega) (by simp only [hp1]; rw [hct]; simp; omega)
      (fun z hz => hqp z (List.mem_cons_of_mem _ hz)) hq (by simp at hk; omega)
    refine ⟨p', s', by rw [h3]; simp [asked], ((Lkd.get s).trans (Lkd.get _)).trans h4.lkd, h4.from_, h4.next, h4.key⟩
/-- a list that stands at l: its nodes -/
structure Lst (W : List Int) (l : Int) (ns : List (Int × Int)) : Prop where
  run : Run W ((l, (ns.length : Int)) :: ns) 0
  rise : (ns.map (·.2)).Pairwise (· < ·)
  bd : ∀ x ∈ (l, (ns.length : Int)) :: ns, 0 ≤ x.1 ∧ x.1 + 1 < W.length
theorem hfind_run {q : Int → Bool} {s : St} {l : Int} {pre post : List (Int × Int)} {k : Nat} (h : Lst s.W l (pre ++ post)) (hf : s.fail < 0) (hW : s.W.length ≤ 200) (hp : pre.length ≤ 500) (hk : pre.length < k) (hqp : ∀ x ∈ pre, q x.2 = true) (hq : ∀ x r, post = x :: r → q x.2 = false) :
    ∃ p' s', hfind q k s 0 l = some (p', asked pre post, 0, s') ∧ Found s s' p' (l + 1) pre post := by
  have hl := h.bd _ List.mem_cons_self
  simp only at hl
  unfold hfind
  rw [hg hf (show l < s.W.length by omega)]
  simp only
  rw [uA (by omega) (by omega), show ca s.W l = ((pre ++ post).length : Int) from h.run.1]
  obtain ⟨p', s', h1, h2⟩ := fGo_run q ((pre ++ post).length : Int) post pre 0 { from_ := l + 1, next := 0, key := 0, ahead := 0 } [] (gt1 s) k hf (by show s.W.length ≤ 1000; omega) (by show l + 1 < (s.W.length : Int); omega) h.run.2.1 h.run.2.2
    (fun x hx => h.bd x (List.mem_cons_of_mem _ hx)) h.rise (fun x _ hh => by simp at hh) (by simp) (by simp; omega) (by simp) hqp hq hk
  exact ⟨p', s', by simpa using h1, (Lkd.get s).trans h2.lkd, h2.from_, h2.next, h2.key⟩
end Go.Proofs.Ytcohopobjppmaaa
