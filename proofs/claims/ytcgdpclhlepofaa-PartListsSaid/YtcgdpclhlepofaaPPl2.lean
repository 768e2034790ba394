/- The document's chains on plain words, and what the queue's nodes come to where no call is refused. No program in sight. -/
import Derived.Test.YtcgdpclhlepofaaPPl1
namespace Go.Proofs.Ytcgdpclhlepofaa
open Go.RowKit
set_option linter.unusedVariables false

def chainGo (W : List Int) (most : Int) : Nat → Int → List Int → List Int × Bool
  | 0, _, l => (l, true)
  | k + 1, n, l => if n = 0 ∨ most < (l.length : Int) then (l, true) else if (W.length : Int) ≤ n then (l, false) else chainGo W most k (W.getD n.toNat 0) (l ++ [n - 1])
def wholeB (W : List Int) (q : Int) (l : List Int) (ok : Bool) : Prop := ok = true ∧ (l.length : Int) = W.getD (q + 2).toNat 0 ∧ W.getD (q + 1).toNat 0 = topOf l
instance (W : List Int) (q : Int) (l : List Int) (ok : Bool) : Decidable (wholeB W q l ok) := by unfold wholeB; infer_instance
def whole (W : List Int) (q : Int) : List Int × Bool :=
  if (W.length : Int) ≤ q + 2 then ([], false) else
  if 65536 < W.getD (q + 2).toNat 0 then ([], false) else
  match chainGo W (W.getD (q + 2).toNat 0) 65538 (W.getD q.toNat 0) [] with
  | (l, ok) => if wholeB W q l ok then (l, true) else ([], false)

theorem chainGo_in (W : List Int) (hW : ∀ x ∈ W, 0 ≤ x ∧ x ≤ 18446744073709551615) (most : Int) : ∀ (k : Nat) (n : Int) (l : List Int), 0 ≤ n → (∀ x ∈ l, 0 ≤ x ∧ x + 1 < (W.length : Int)) → ∀ x ∈ (chainGo W most k n l).1, 0 ≤ x ∧ x + 1 < (W.length : Int)
  | 0, _, _, _, h => h
  | k + 1, n, l, hn, h => by
    rw [chainGo]
    split
    · exact h
    · split
      · exact h
      · refine chainGo_in W hW most k _ _ (getD_bd hW _).1 fun x hx => (List.mem_append.1 hx).elim (h x) fun hx => ?_
        obtain rfl : x = n - 1 := by simpa using hx
        omega
theorem chainGo_len (W : List Int) (most : Int) : ∀ (k : Nat) (n : Int) (l : List Int), ((l.length : Int) ≤ most + 1) → ((chainGo W most k n l).1.length : Int) ≤ most + 1
  | 0, _, _, h => h
  | k + 1, n, l, h => by
    rw [chainGo]
    split
    · exact h
    · split
      · exact h
      · exact chainGo_len W most k _ _ (by simp; omega)
theorem whole_in {W : List Int} {q : Int} (hW : ∀ x ∈ W, 0 ≤ x ∧ x ≤ 18446744073709551615) {l : List Int} {ok : Bool} (h : whole W q = (l, ok)) : ∀ x ∈ l, 0 ≤ x ∧ x + 1 < (W.length : Int) := by
  unfold whole at h
  split at h
  · simp at h; obtain ⟨rfl, _⟩ := h; simp
  · split at h
    · simp at h; obtain ⟨rfl, _⟩ := h; simp
    · have hi := chainGo_in W hW (W.getD (q + 2).toNat 0) 65538 (W.getD q.toNat 0) [] (getD_bd hW _).1 (by simp)
      rcases hq : chainGo W (W.getD (q + 2).toNat 0) 65538 (W.getD q.toNat 0) [] with ⟨l1, ok1⟩
      rw [hq] at h hi
      simp only at h hi
      split at h
      · simp at h; obtain ⟨rfl, _⟩ := h; exact hi
      · simp at h; obtain ⟨rfl, _⟩ := h; simp
theorem whole_len {W : List Int} {q : Int} {l : List Int} {ok : Bool} (h : whole W q = (l, ok)) : (l.length : Int) ≤ 65537 := by
  unfold whole at h
  split at h
  · simp at h; obtain ⟨rfl, _⟩ := h; simp
  · split at h
    · simp at h; obtain ⟨rfl, _⟩ := h; simp
    · rcases hq : chainGo W (W.getD (q + 2).toNat 0) 65538 (W.getD q.toNat 0) [] with ⟨l1, ok1⟩
      rw [hq] at h
      simp only at h
      split at h
      · rename_i h1 h2 h3
        simp at h; obtain ⟨rfl, _⟩ := h
        have := h3.2.1
        omega
      · simp at h; obtain ⟨rfl, _⟩ := h; simp

/-- where no call is refused -/
theorem sget_out {s : St} {n : Nat} (h : Ok s n) {a : Int} (ha : (s.W.length : Int) ≤ a) : sget s a = (0, 4, gone s (false, a, 0)) := by
  unfold sget
  rw [if_neg (by have := h.1; omega), if_pos ha]
  rfl
theorem bget_0 (s : St) (a : Int) : bget 0 s a = sget s a := by unfold bget; rw [if_pos (by decide)]
theorem bget_no {e : Int} (he : e ≠ 0) (s : St) (a : Int) : bget e s a = (0, e, s) := by unfold bget; rw [if_neg (by simpa using he)]

/-- refused: by one of two errors, with nothing put -/
def Refd (W : List Int) (n : Nat) (r : List Int × Int × St) : Prop := r.1 = [] ∧ (r.2.1 = 330 ∨ r.2.1 = 4) ∧ r.2.2.W = W ∧ Ok r.2.2 n
def Told (W : List Int) (n : Nat) (l : List Int) (r : List Int × Int × St) : Prop := r.1 = l ∧ r.2.1 = 0 ∧ r.2.2.W = W ∧ Ok r.2.2 n

theorem chEnd_ok {many : Int} {l : List Int} {b en : Int} {s : St} (h : en = b) (hl : (l.length : Int) = many) : chEnd many (l, b, en, 0, s) = (l, 0, s) := by
  unfold chEnd; simp only; rw [if_neg (by decide), if_neg (by simp [h, hl])]
theorem chEnd_no {many : Int} {l : List Int} {b en : Int} {s : St} (h : en ≠ b ∨ (l.length : Int) ≠ many) : chEnd many (l, b, en, 0, s) = ([], 330, s) := by
  unfold chEnd; simp only; rw [if_neg (by decide), if_pos (h.elim (fun h => .inl (by simpa using h)) (fun h => .inr (by simpa using h)))]
theorem chEnd_err {many : Int} {l : List Int} {b en e : Int} {s : St} (h : e ≠ 0) : chEnd many (l, b, en, e, s) = ([], e, s) := by
  unfold chEnd; simp only; rw [if_pos (by simpa using h)]

theorem topOf_bd {l : List Int} {m : Int} (h : ∀ x ∈ l, 0 ≤ x ∧ x + 1 < m) (hm : 0 ≤ m) : 0 ≤ topOf l ∧ topOf l ≤ m := by
  unfold topOf
  rcases hl : l.getLast? with _ | x
  · simp; omega
  · have := h x (List.mem_of_getLast? hl)
    simp only; omega

theorem qChain_law (many : Int) : ∀ (k : Nat) (n en : Int) (l : List Int) (s : St) (m : Nat), Ok s (m + k) → Fits s → 0 ≤ n → n ≤ 18446744073709551615 → (l.length : Int) ≤ many → many ≤ 65536 → many + 2 ≤ l.length + k → (∀ x ∈ l, 0 ≤ x ∧ x + 1 < (s.W.length : Int)) →
    ∀ l1 ok, chainGo s.W many k n l = (l1, ok) →
      (ok = true ∧ (l1.length : Int) = many ∧ en = topOf l1 → Told s.W m l1 (chEnd many (qChain many k n (topOf l) en l s))) ∧
      (¬ (ok = true ∧ (l1.length : Int) = many ∧ en = topOf l1) → Refd s.W m (chEnd many (qChain many k n (topOf l) en l s)))
  | 0, n, en, l, s, m, hok, hf, hn, hn', hl, hm, hk, hin, l1, ok, h => by omega
  | k + 1, n, en, l, s, m, hok, hf, hn, hn', hl, hm, hk, hin, l1, ok, h => by
    rw [chainGo] at h
    have hok' : Ok s m := hok.mono (by omega)
    by_cases h0 : n = 0
    · rw [if_pos (.inl h0)] at h
      simp at h
      obtain ⟨rfl, rfl⟩ := h
      rw [qChain_end h0]
      refine ⟨fun h => ?_, fun h => ?_⟩
      · rw [chEnd_ok h.2.2 h.2.1]; exact ⟨rfl, rfl, rfl, hok'⟩
      · rw [chEnd_no (if h1 : en = topOf l then .inr fun h2 => h ⟨rfl, h2, h1⟩ else .inl h1)]
        exact ⟨rfl, .inl rfl, rfl, hok'⟩
    · rw [if_neg (by omega)] at h
      have hb := topOf_bd hin (by omega)
      have hln := hf.len
      by_cases h2 : (l.length : Int) = many
      · rw [qChain_long h0 h2, chEnd_no (.inl (by rw [uAdd_id (by omega) (by omega)]; omega))]
        have hno : ¬ (ok = true ∧ (l1.length : Int) = many ∧ en = topOf l1) := by
          rintro ⟨rfl, h3, _⟩
          by_cases h4 : (s.W.length : Int) ≤ n
          · rw [if_pos h4] at h; simp at h
          · rw [if_neg h4] at h
            cases k with
            | zero => rw [chainGo] at h; simp at h; rw [← h] at h3; simp at h3; omega
            | succ k =>
              rw [chainGo, if_pos (.inr (by simp; omega))] at h
              simp at h; rw [← h] at h3; simp at h3; omega
        exact ⟨fun h => absurd h hno, fun _ => ⟨rfl, .inl rfl, rfl, hok'⟩⟩
      · have ea : uAdd (IntKind.u64.wrap (n - 1)) 1 = n := by rw [uw_id (by omega) (by omega), uAdd_id (by omega) (by omega)]; omega
        have hok1 : Ok s ((m + k) + 1) := hok
        by_cases h4 : (s.W.length : Int) ≤ n
        · rw [if_pos h4] at h
          simp at h
          obtain ⟨rfl, rfl⟩ := h
          have hq : bget 0 s (uAdd (IntKind.u64.wrap (n - 1)) 1) = (0, 4, gone s (false, n, 0)) := by rw [bget_0, ea, sget_out hok1 h4]
          rw [qChain_step h0 h2 hq, if_neg (by decide), chEnd_err (by decide)]
          exact ⟨fun h => absurd h.1 (by decide), fun _ => ⟨rfl, .inr rfl, rfl, (hok1.gone (false, n, 0)).mono (by omega)⟩⟩
        · rw [if_neg h4] at h
          have hq : bget 0 s (uAdd (IntKind.u64.wrap (n - 1)) 1) = (s.W.getD n.toNat 0, 0, gone s (false, n, 0)) := by rw [bget_0, ea, sget_live hok1 (by omega)]
          rw [qChain_step h0 h2 hq, if_pos rfl]
          have et : topOf (l ++ [IntKind.u64.wrap (n - 1)]) = n := by rw [topOf_snoc, uw_id (by omega) (by omega)]; omega
          have hgd := getD_bd hf.words n.toNat
          have := qChain_law many k (s.W.getD n.toNat 0) en (l ++ [IntKind.u64.wrap (n - 1)]) (gone s (false, n, 0)) m (hok1.gone _) ⟨hf.words, hf.len, hf.code⟩ hgd.1 hgd.2 (by simp; omega) hm (by simp; omega) (fun x hx => (List.mem_append.1 hx).elim (hin x) fun hx => by
            obtain rfl : x = IntKind.u64.wrap (n - 1) := by simpa using hx
            rw [uw_id (by omega) (by omega)]
            show 0 ≤ n - 1 ∧ n - 1 + 1 < (s.W.length : Int)
            omega) l1 ok (by rw [uw_id (by omega) (by omega)]; exact h)
          rw [et] at this
          exact this

theorem qNodes_law {q : Int} {s : St} {m : Nat} (hok : Ok s (m + 65541)) (hf : Fits s) (hq : 0 ≤ q) {l : List Int} {ok : Bool} (h : whole s.W q = (l, ok)) :
    (ok = true → Told s.W m l (qNodes s q)) ∧ (ok = false → Refd s.W m (qNodes s q)) := by
  have hln := hf.len
  have e0 : ∀ (s2 : St) (a : Int), qNodes s q = qNodes s q := fun _ _ => rfl
  unfold whole at h
  have hok1 : Ok s ((m + 65540) + 1) := hok.mono (by omega)
  unfold qNodes
  rw [bget_0]
  by_cases h1 : q < (s.W.length : Int)
  · rw [sget_live hok1 h1]
    simp only
    have hok2 : Ok (gone s (false, q, 0)) ((m + 65539) + 1) := hok1.gone _
    rw [uAdd_id (a := q) (b := 2) (by omega) (by omega), uAdd_id (a := q) (b := 1) (by omega) (by omega), bget_0]
    by_cases h2 : (s.W.length : Int) ≤ q + 2
    · rw [if_pos h2] at h
      simp at h
      obtain ⟨rfl, rfl⟩ := h
      rw [sget_out hok2 h2]
      simp only
      rw [bget_no (e := 4) (by decide)]
      simp only
      rw [if_pos (by decide)]
      exact ⟨fun h => (nomatch h), fun _ => ⟨rfl, .inr rfl, rfl, (hok2.gone (false, q + 2, 0)).mono (by omega)⟩⟩
    · rw [if_neg h2] at h
      rw [sget_live hok2 (by show q + 2 < (s.W.length : Int); omega)]
      simp only
      have hok3 : Ok (gone (gone s (false, q, 0)) (false, q + 2, 0)) ((m + 65538) + 1) := hok2.gone _
      rw [bget_0, sget_live hok3 (by show q + 1 < (s.W.length : Int); omega)]
      simp only
      rw [if_neg (by decide)]
      have hok4 : Ok (gone (gone (gone s (false, q, 0)) (false, q + 2, 0)) (false, q + 1, 0)) (m + 65538) := hok3.gone _
      have eW : (gone (gone (gone s (false, q, 0)) (false, q + 2, 0)) (false, q + 1, 0)).W = s.W := rfl
      have hf4 : Fits (gone (gone (gone s (false, q, 0)) (false, q + 2, 0)) (false, q + 1, 0)) := ⟨hf.words, hf.len, hf.code⟩
      generalize gone (gone (gone s (false, q, 0)) (false, q + 2, 0)) (false, q + 1, 0) = s4 at *
      have g1 := getD_bd hf.words q.toNat
      have g2 := getD_bd hf.words (q + 2).toNat
      simp only [gone_W] at *
      by_cases h3 : 65536 < s.W.getD (q + 2).toNat 0
      · simp only [h3, ite_true] at h ⊢
        simp at h
        obtain ⟨rfl, rfl⟩ := h
        rw [if_neg (by decide), if_pos (.inl (by decide))]
        exact ⟨fun h => (nomatch h), fun _ => ⟨rfl, .inl rfl, eW, hok4.mono (by omega)⟩⟩
      · simp only [h3, ite_false] at h ⊢
        rcases hq : chainGo s.W (s.W.getD (q + 2).toNat 0) 65538 (s.W.getD q.toNat 0) [] with ⟨l1, ok1⟩
        rw [hq] at h
        simp only at h
        have key := qChain_law (s.W.getD (q + 2).toNat 0) 65538 (s.W.getD q.toNat 0) (s.W.getD (q + 1).toNat 0) [] s4 m hok4 hf4 g1.1 g1.2 (by simp only [List.length_nil]; exact g2.1) (by omega) (by simp only [List.length_nil]; omega) (by simp) l1 ok1 (by rw [eW]; exact hq)
        rw [topOf_nil, eW] at key
        by_cases hc : wholeB s.W q l1 ok1
        · rw [if_pos hc] at h
          simp at h
          obtain ⟨rfl, rfl⟩ := h
          exact ⟨fun _ => key.1 hc, fun h => (nomatch h)⟩
        · rw [if_neg hc] at h
          simp at h
          obtain ⟨rfl, rfl⟩ := h
          exact ⟨fun h => (nomatch h), fun _ => key.2 hc⟩
  · rw [if_pos (by omega)] at h
    simp at h
    obtain ⟨rfl, rfl⟩ := h
    rw [sget_out hok1 (by omega)]
    simp only
    rw [bget_no (e := 4) (by decide)]
    simp only
    rw [bget_no (e := 4) (by decide)]
    simp only
    rw [if_pos (by decide)]
    exact ⟨fun h => (nomatch h), fun _ => ⟨rfl, .inr rfl, rfl, (hok1.gone (false, q, 0)).mono (by omega)⟩⟩

theorem qWordsGo_law : ∀ (l : List Int) (s : St) (m : Nat), Ok s (m + l.length) → (∀ x ∈ l, 0 ≤ x ∧ x + 1 < (s.W.length : Int)) → ∃ s', qWordsGo l 0 s = (l.map (fun x => s.W.getD x.toNat 0), 0, s') ∧ s'.W = s.W ∧ Ok s' m
  | [], s, m, h, _ => ⟨s, rfl, rfl, h⟩
  | n :: l, s, m, h, hin => by
    have h1 : Ok s ((m + l.length) + 1) := h
    have h2 := hin n (by simp)
    obtain ⟨s', e, hW, hok⟩ := qWordsGo_law l (gone s (false, n, 0)) m (h1.gone _) fun x hx => hin x (by simp [hx])
    refine ⟨s', ?_, hW, hok⟩
    rw [qWordsGo, bget_0, sget_live h1 (by omega)]
    simp only
    rw [e]
    rfl
theorem qWords_law {q : Int} {s : St} {m : Nat} (hok : Ok s (m + 131080)) (hf : Fits s) (hq : 0 ≤ q) {l : List Int} {ok : Bool} (h : whole s.W q = (l, ok)) :
    (ok = true → Told s.W m (l.map (fun x => s.W.getD x.toNat 0)) (qWords s q)) ∧ (ok = false → Refd s.W m (qWords s q)) := by
  obtain ⟨k1, k2⟩ := qNodes_law (m := m + 65539) (hok.mono (by omega)) hf hq h
  have hl := whole_len h
  have hin := whole_in hf.words h
  rcases hn : qNodes s q with ⟨l2, e2, s2⟩
  rw [hn] at k1 k2
  unfold qWords
  rw [hn]
  simp only
  refine ⟨fun h1 => ?_, fun h1 => ?_⟩
  · obtain ⟨he1, he2, hW, hok2⟩ := k1 h1
    simp only at he1 he2 hW hok2
    subst he1
    subst he2
    obtain ⟨s3, e3, hW3, hok3⟩ := qWordsGo_law l2 s2 m (hok2.mono (by omega)) (by rw [hW]; exact hin)
    rw [e3]
    simp only
    rw [if_neg (by decide)]
    exact ⟨by simp only; rw [hW], rfl, hW3.trans hW, hok3⟩
  · obtain ⟨rfl, he, hW, hok2⟩ := k2 h1
    simp only at he hW hok2
    rw [qWordsGo]
    simp only
    rw [if_pos (by rcases he with rfl | rfl <;> decide)]
    exact ⟨rfl, he, hW, hok2.mono (by omega)⟩
theorem qDrop_law {q : Int} {s : St} {m : Nat} (hok : Ok s (m + 65541)) (hf : Fits s) (hq : 0 ≤ q) {l : List Int} (h : whole s.W q = (l, false)) :
    ∃ e s', qDrop s 0 q = (e, s') ∧ (e = 330 ∨ e = 4) ∧ s'.W = s.W ∧ Ok s' m := by
  obtain ⟨_, k2⟩ := qNodes_law (m := m) hok hf hq h
  rcases hn : qNodes s q with ⟨l2, e2, s2⟩
  rw [hn] at k2
  obtain ⟨rfl, he, hW, hok2⟩ := k2 rfl
  simp only at he hW hok2
  refine ⟨e2, s2, ?_, he, hW, hok2⟩
  unfold qDrop
  rw [hn]
  simp only
  rw [qGiveGo]
  simp only
  rw [if_neg (by rcases he with rfl | rfl <;> decide)]
end Go.Proofs.Ytcgdpclhlepofaa
/- The room's calls where none is refused. No program in sight. -/
namespace Go.Proofs.Ytcgdpclhlepofaa
open Go.RowKit
set_option linter.unusedVariables false

theorem Rm.perm {W : List Int} {fr to : Int} {out out' : List (Int × Int)} {back : Nat → List Int} (h : Rm W fr to out back) (hp : out.Perm out') : Rm W fr to out' back :=
  ⟨h.fr0, h.to0, h.nx0, h.nx1, h.end_, h.top, h.chain, fun p hp' => h.outIn p (hp.mem_iff.2 hp'), h.backIn, (hp.pairwise_iff (fun h => Disj.symm h)).1 h.oo, fun p hp' => h.ob p (hp.mem_iff.2 hp'), h.bb, h.bc⟩

theorem layGo_ok' : ∀ (k : Nat) (a : Int) (s : St) (n : Nat), Ok s (n + k) → 0 ≤ a → a + k ≤ s.W.length → (s.W.length : Int) ≤ 9223372036854775807 →
    ∃ s', layGo k a s = (0, s') ∧ Ok s' n ∧ s'.W.length = s.W.length ∧ ∀ j, s'.W.getD j 0 = if a.toNat ≤ j ∧ j < a.toNat + k then 0 else s.W.getD j 0
  | 0, a, s, n, h, ha, hl, _ => ⟨s, rfl, h, rfl, fun j => by rw [if_neg (by omega)]⟩
  | k + 1, a, s, n, h, ha, hl, hl2 => by
    have h' : Ok s ((n + k) + 1) := h
    obtain ⟨s', h1, h2, h4, h5⟩ := layGo_ok' k (a + 1) { gone s (true, a, 0) with W := s.W.set a.toNat 0 } n ((h'.gone _).setW _) (by omega) (by simp; omega) (by simpa using hl2)
    refine ⟨s', ?_, h2, by simpa using h4, fun j => ?_⟩
    · rw [layGo, sput_live h (by omega)]
      simp only [bne_self_eq_false, if_true]
      rw [uAdd_id (by omega) (by omega)]
      exact h1
    · rw [h5, show (a + 1).toNat = a.toNat + 1 by omega]
      simp only
      rw [getD_set_]
      have : a.toNat < s.W.length := by omega
      split
      · rw [if_pos (by omega)]
      · split
        · rw [if_pos (by omega)]
        · rw [if_neg (by omega)]

theorem lay_ok {s : St} {n : Nat} {x y : Int} (h : Ok s (n + 18)) (hl : 18 ≤ s.W.length) (hl2 : (s.W.length : Int) ≤ 9223372036854775807) (hxy : x ≤ y) :
    ∃ s', rLay s 0 x y = (0, s') ∧ Ok s' n ∧ s'.W.length = s.W.length ∧ ∀ j, s'.W.getD j 0 = if j = 0 then x else if j = 1 then y else if j < 18 then 0 else s.W.getD j 0 := by
  have h1 : Ok s ((n + 16 + 1) + 1) := h
  have o1 := (h1.gone (true, 0, x)).setW (s.W.set 0 x)
  have o2 := (o1.gone (true, 1, y)).setW ((s.W.set 0 x).set 1 y)
  obtain ⟨s', k1, k2, k4, k5⟩ := layGo_ok' 16 2 { gone { gone s (true, 0, x) with W := s.W.set 0 x } (true, 1, y) with W := (s.W.set 0 x).set 1 y } n o2 (by omega) (by show (2 : Int) + (16 : Nat) ≤ (((s.W.set 0 x).set 1 y).length : Int); simp; omega) (by show (((s.W.set 0 x).set 1 y).length : Int) ≤ _; simpa using hl2)
  refine ⟨s', ?_, k2, by simpa using k4, fun j => ?_⟩
  · unfold rLay
    rw [if_neg (by omega), sput_live h (by omega)]
    simp only [bne_self_eq_false, if_true]
    rw [uAdd_id (by omega) (by omega), show (0 + 1 : Int) = 1 by omega, show ((0 : Int).toNat) = 0 from rfl, sput_live o1 (by simp; omega)]
    simp only [bne_self_eq_false, if_true]
    rw [uAdd_id (by omega) (by omega)]
    exact k1
  · rw [k5]
    have e : ({ gone { gone s (true, 0, x) with W := s.W.set 0 x } (true, 1, y) with W := (s.W.set 0 x).set 1 y } : St).W = (s.W.set 0 x).set 1 y := rfl
    rw [e]
    by_cases j0 : j = 0
    · subst j0
      rw [if_neg (by omega), if_pos rfl, getD_ne _ (by omega), getD_eq _ (by omega)]
    · rw [if_neg j0]
      by_cases j1 : j = 1
      · subst j1
        rw [if_neg (by omega), if_pos rfl, getD_eq _ (by simp; omega)]
      · rw [if_neg j1]
        by_cases j2 : j < 18
        · rw [if_pos j2, if_pos (by omega)]
        · rw [if_neg j2, if_neg (by omega), getD_ne _ (by omega), getD_ne _ (by omega)]

/-- A piece is given back. -/
theorem give_ok {s : St} {n : Nat} {fr to p : Int} {z : Nat} {o1 o2 : List (Int × Int)} {back : Nat → List Int} (h : Ok s (n + 3)) (hr : Rm s.W fr to (o1 ++ (p, (z : Int)) :: o2) back) (hl2 : (s.W.length : Int) ≤ 4611686018427387904) :
    ∃ s', rGive s 0 p z = (0, s') ∧ Ok s' n ∧ s'.W = (s.W.set p.toNat (s.W.getD (1 + z) 0)).set (1 + z) (p + 1) ∧ Rm s'.W fr to (o1 ++ o2) (fun y => if y = z then back z ++ [p] else back y) := by
  have hp := hr.outIn (p, z) (by simp)
  simp only at hp
  have f0 := hr.fr0
  have t0 := hr.to0
  have nx := hr.nx1
  have hg := hr.give
  have h1 : Ok s ((n + 1 + 1) + 1) := h
  have e1 : uAdd (uAdd 0 1) z = 1 + z := by rw [uAdd_uAdd, uAdd_id (by omega) (by omega)]; omega
  have ez : ((1 : Int) + z).toNat = 1 + z := by omega
  have o1' := h1.gone (false, 1 + (z : Int), 0)
  have o2' := (o1'.gone (true, p, s.W.getD (1 + z) 0)).setW (s.W.set p.toNat (s.W.getD (1 + z) 0))
  have o3 := (o2'.gone (true, 1 + (z : Int), p + 1)).setW ((s.W.set p.toNat (s.W.getD (1 + z) 0)).set (1 + z) (p + 1))
  refine ⟨_, ?_, o3, rfl, hg⟩
  unfold rGive
  rw [if_neg (by omega), e1, sget_live h (by omega)]
  simp only [bne_self_eq_false, if_true, ez]
  rw [sput_live o1' (by show p < s.W.length; omega)]
  simp only [bne_self_eq_false, if_true]
  rw [uAdd_id (by omega) (by omega)]
  exact sput_live o2' (by simp; omega) (p + 1)

/-- A piece is taken, or there is none. -/
theorem take_ok {s : St} {n : Nat} {fr to : Int} {z : Nat} {out : List (Int × Int)} {back : Nat → List Int} (h : Ok s (n + 4)) (hr : Rm s.W fr to out back) (z1 : 1 ≤ z) (z2 : z ≤ 16) (hl2 : (s.W.length : Int) ≤ 4611686018427387904) :
    (back z = [] ∧ to < s.W.getD 0 0 + z ∧ ∃ s', rTake s 0 z = (0, 9, s') ∧ Ok s' n ∧ s'.W = s.W) ∨
    ∃ p s' back', rTake s 0 z = (p, 0, s') ∧ Ok s' n ∧ fr ≤ p ∧ p + z ≤ to ∧ Rm s'.W fr to (out ++ [(p, (z : Int))]) back' ∧ (∀ q ∈ out, Disj q (p, z)) ∧ s'.W.length = s.W.length ∧ (∀ j, 18 ≤ j → s'.W.getD j 0 = s.W.getD j 0) ∧ s'.W.getD 0 0 ≤ s.W.getD 0 0 + z ∧
      ((back z = [] ∧ back' = back ∧ p = s.W.getD 0 0 ∧ s'.W.getD 0 0 = s.W.getD 0 0 + z) ∨ ∃ l, back z = l ++ [p] ∧ (back' = fun y => if y = z then l else back y) ∧ s'.W.getD 0 0 = s.W.getD 0 0) := by
  have f0 := hr.fr0
  have t0 := hr.to0
  have nx := hr.nx1
  have nx0 := hr.nx0
  have en := hr.end_
  have h1 : Ok s ((n + 1 + 1 + 1) + 1) := h
  have e1 : uAdd (uAdd 0 1) z = 1 + z := by rw [uAdd_uAdd, uAdd_id (by omega) (by omega)]; omega
  have ez : ((1 : Int) + z).toNat = 1 + z := by omega
  have g1 := h1.gone (false, 1 + (z : Int), 0)
  have g2 := g1.gone (false, 0, 0)
  have g3 := g2.gone (false, 1, 0)
  have ht := hr.top z z1 z2
  rcases List.eq_nil_or_concat (back z) with hb | ⟨l, p, hb⟩
  · rw [hb, topOf_nil] at ht
    have e2 : (s.W.getD (1 + z) 0 != 0) = false := by rw [ht]; rfl
    have T : rTake s 0 z = (if s.W.getD 1 0 < s.W.getD 0 0 ∨ s.W.getD 1 0 - s.W.getD 0 0 < z then (0, 9, gone (gone (gone s (false, 1 + (z : Int), 0)) (false, 0, 0)) (false, 1, 0)) else
        match sput (gone (gone (gone s (false, 1 + (z : Int), 0)) (false, 0, 0)) (false, 1, 0)) 0 (s.W.getD 0 0 + z) with
        | (e4, s4) => if (e4 != 0) = false then (s.W.getD 0 0, 0, s4) else (0, e4, s4)) := by
      unfold rTake
      rw [if_neg (by omega), e1, sget_live h (by omega)]
      simp only [bne_self_eq_false, if_true, ez, e2]
      rw [sget_live g1 (by show _ < (s.W.length : Int); omega)]
      simp only [bne_self_eq_false, if_true]
      rw [uAdd_id (by omega) (by omega), show (0 + 1 : Int) = 1 by omega, sget_live g2 (by show _ < (s.W.length : Int); omega)]
      simp only [bne_self_eq_false, if_true]
      rfl
    by_cases hn : s.W.getD 0 0 + z ≤ to
    · right
      obtain ⟨q1, q2⟩ := hr.new z1 z2 hn
      have g4 := (g3.gone (true, 0, s.W.getD 0 0 + z)).setW (s.W.set 0 (s.W.getD 0 0 + z))
      have e0 : (s.W.set 0 (s.W.getD 0 0 + z)).getD 0 0 = s.W.getD 0 0 + z := getD_eq _ (by omega)
      refine ⟨s.W.getD 0 0, _, back, ?_, g4, nx0, hn, q1, q2, by simp, fun j hj => getD_ne _ (by omega), by rw [e0]; exact Int.le_refl _, .inl ⟨hb, rfl, rfl, e0⟩⟩
      rw [T, if_neg (by omega), sput_live g3 (by show _ < (s.W.length : Int); omega)]
      rfl
    · left
      exact ⟨hb, by omega, _, by rw [T, if_pos (by omega)], g3.mono (by omega), rfl⟩
  · rw [List.concat_eq_append] at hb
    right
    obtain ⟨q1, q2, q3, q4, q5⟩ := hr.back z1 z2 hb
    have e2 : (s.W.getD (1 + z) 0 != 0) = true := by rw [q1, bne_iff_ne]; omega
    have k2 := g1.gone (false, p, 0)
    have k3 := (k2.gone (true, 1 + (z : Int), s.W.getD p.toNat 0)).setW (s.W.set (1 + z) (s.W.getD p.toNat 0))
    have e0 : (s.W.set (1 + z) (s.W.getD p.toNat 0)).getD 0 0 = s.W.getD 0 0 := getD_ne _ (by omega)
    refine ⟨p, _, _, ?_, k3.mono (by omega), q3, q4, q2, q5, by simp, fun j hj => getD_ne _ (by omega), by show (s.W.set (1 + z) (s.W.getD p.toNat 0)).getD 0 0 ≤ _; rw [e0]; omega, .inr ⟨l, hb, rfl, e0⟩⟩
    unfold rTake
    rw [if_neg (by omega), e1, sget_live h (by omega)]
    simp only [bne_self_eq_false, if_true, ez, e2, if_false, Bool.true_eq_false]
    rw [q1, uw_id (by omega) (by omega), show p + 1 - 1 = p by omega, sget_live g1 (by show _ < (s.W.length : Int); omega)]
    simp only [bne_self_eq_false, if_true]
    rw [sput_live k2 (by show _ < (s.W.length : Int); omega)]
    simp only [bne_self_eq_false, if_true, ez]
    rfl
end Go.Proofs.Ytcgdpclhlepofaa
/- Queues in a room, on plain words: what a queue's cells have, and what keeps them. No program in sight. -/
namespace Go.Proofs.Ytcgdpclhlepofaa
open Go.RowKit
set_option linter.unusedVariables false

/-- a queue: where it is, its nodes, their words -/
structure Qr where
  hd : Int
  nodes : List Int
  words : List Int
def pcs (q : Qr) : List (Int × Int) := (q.hd, 3) :: q.nodes.map fun n => (n, 2)
def outs (qs : List Qr) : List (Int × Int) := qs.flatMap pcs
theorem outs_append (a b : List Qr) : outs (a ++ b) = outs a ++ outs b := by unfold outs; simp
theorem outs_cons (q : Qr) (b : List Qr) : outs (q :: b) = pcs q ++ outs b := by unfold outs; simp
theorem outs_nil : outs [] = [] := rfl
def hdOr : List Int → Int → Int
  | [], e => e
  | n :: _, _ => n + 1
/-- nodes that lead to each other, with these words; the last one leads to e -/
def Lnk (W : List Int) : List Int → List Int → Int → Prop
  | [], [], _ => True
  | n :: ns, x :: xs, e => W.getD n.toNat 0 = x ∧ W.getD (n + 1).toNat 0 = hdOr ns e ∧ Lnk W ns xs e
  | _, _, _ => False
structure Qst (W : List Int) (q : Qr) : Prop where
  first : W.getD q.hd.toNat 0 = hdOr q.nodes 0
  last : W.getD (q.hd + 1).toNat 0 = topOf q.nodes
  count : W.getD (q.hd + 2).toNat 0 = q.nodes.length
  lnk : Lnk W q.nodes q.words 0

theorem Lnk.len {W : List Int} : ∀ {ns xs : List Int} {e : Int}, Lnk W ns xs e → ns.length = xs.length
  | [], [], _, _ => rfl
  | n :: ns, x :: xs, e, h => by have := Lnk.len h.2.2; simp [this]
  | [], _ :: _, _, h => h.elim
  | _ :: _, [], _, h => h.elim
theorem Lnk.keep {W W' : List Int} : ∀ {ns xs : List Int} {e : Int}, Lnk W ns xs e → (∀ n ∈ ns, W'.getD n.toNat 0 = W.getD n.toNat 0 ∧ W'.getD (n + 1).toNat 0 = W.getD (n + 1).toNat 0) → Lnk W' ns xs e
  | [], [], _, _, _ => trivial
  | n :: ns, x :: xs, e, h, hk => ⟨(hk n (by simp)).1.trans h.1, (hk n (by simp)).2.trans h.2.1, Lnk.keep h.2.2 fun m hm => hk m (by simp [hm])⟩
  | [], _ :: _, _, h, _ => h.elim
  | _ :: _, [], _, h, _ => h.elim
theorem Lnk.words {W : List Int} : ∀ {ns xs : List Int} {e : Int}, Lnk W ns xs e → ns.map (fun n => W.getD n.toNat 0) = xs
  | [], [], _, _ => rfl
  | n :: ns, x :: xs, e, h => by rw [List.map_cons, h.1, Lnk.words h.2.2]
  | [], _ :: _, _, h => h.elim
  | _ :: _, [], _, h => h.elim
/-- the last node is led elsewhere -/
theorem Lnk.lead {W W' : List Int} : ∀ {ns xs : List Int} {m e e' : Int}, Lnk W (ns ++ [m]) xs e → (∀ n ∈ ns, W'.getD n.toNat 0 = W.getD n.toNat 0 ∧ W'.getD (n + 1).toNat 0 = W.getD (n + 1).toNat 0) → W'.getD m.toNat 0 = W.getD m.toNat 0 → W'.getD (m + 1).toNat 0 = e' → Lnk W' (ns ++ [m]) xs e'
  | [], [x], m, e, e', h, _, h1, h2 => ⟨h1.trans h.1, h2, trivial⟩
  | n :: ns, x :: xs, m, e, e', h, hk, h1, h2 => by
    refine ⟨(hk n (by simp)).1.trans h.1, (hk n (by simp)).2.trans (h.2.1.trans ?_), Lnk.lead h.2.2 (fun k hk' => hk k (by simp [hk'])) h1 h2⟩
    cases ns <;> rfl
  | [], [], _, _, _, h, _, _, _ => h.elim
  | [], _ :: _ :: _, _, _, _, h, _, _, _ => h.2.2.elim
  | _ :: _, [], _, _, _, h, _, _, _ => h.elim
theorem Lnk.snoc {W : List Int} : ∀ {ns xs : List Int} {n x : Int}, Lnk W ns xs (n + 1) → W.getD n.toNat 0 = x → W.getD (n + 1).toNat 0 = 0 → Lnk W (ns ++ [n]) (xs ++ [x]) 0
  | [], [], n, x, _, h1, h2 => ⟨h1, h2, trivial⟩
  | m :: ns, y :: xs, n, x, h, h1, h2 => by
    refine ⟨h.1, h.2.1.trans ?_, Lnk.snoc h.2.2 h1 h2⟩
    cases ns <;> rfl
  | [], _ :: _, _, _, h, _, _ => h.elim
  | _ :: _, [], _, _, h, _, _ => h.elim

/-- Cells of the queue's pieces stand: so does the queue. -/
theorem Qst.keep {W W' : List Int} {q : Qr} (h : Qst W q) (hk : ∀ p ∈ pcs q, ∀ j : Int, p.1 ≤ j → j < p.1 + p.2 → W'.getD j.toNat 0 = W.getD j.toNat 0) : Qst W' q := by
  have k0 := hk (q.hd, 3) (by simp [pcs])
  simp only at k0
  exact ⟨(k0 q.hd (by omega) (by omega)).trans h.first, (k0 (q.hd + 1) (by omega) (by omega)).trans h.last, (k0 (q.hd + 2) (by omega) (by omega)).trans h.count, h.lnk.keep fun n hn => by
    have k1 := hk (n, 2) (by simp [pcs, hn])
    simp only at k1
    exact ⟨k1 n (by omega) (by omega), k1 (n + 1) (by omega) (by omega)⟩⟩

/-- A cell of a piece that is out may turn. -/
theorem Rm.put {W : List Int} {fr to : Int} {out : List (Int × Int)} {back : Nat → List Int} (h : Rm W fr to out back) {p : Int × Int} (hp : p ∈ out) {j : Int} (h1 : p.1 ≤ j) (h2 : j < p.1 + p.2) (x : Int) : Rm (W.set j.toNat x) fr to out back := by
  have hi := h.outIn p hp
  have f0 := h.fr0
  have t0 := h.to0
  have nx := h.nx1
  refine h.turn (by simp) (fun k hk => getD_ne _ (by omega)) fun z z1 z2 y hy => getD_ne _ ?_
  have hb := h.backIn z z1 z2 y hy
  have hd := h.ob p hp z z1 z2 y hy
  unfold Disj at hd
  simp only at hd
  omega

/-- What all of a room's queues keep: in the program's words, and in the document's own room. -/
structure Qi (W R : List Int) (c : Int) (qs : List Qr) (back : Nat → List Int) : Prop where
  rm : Rm W 18 c (outs qs) back
  rr : Rm R 18 c (outs qs) back
  eq0 : W.getD 0 0 = R.getD 0 0
  st : ∀ q ∈ qs, Qst W q
  lw : (W.length : Int) ≤ 4611686018427387904
  lr : (R.length : Int) ≤ 4611686018427387904
/-- Two rooms that stand alike answer alike. -/
theorem take_two {s r : St} {n m : Nat} {fr to : Int} {z : Nat} {out : List (Int × Int)} {back : Nat → List Int} (hs : Ok s (n + 4)) (hr : Ok r (m + 4)) (h1 : Rm s.W fr to out back) (h2 : Rm r.W fr to out back) (e0 : s.W.getD 0 0 = r.W.getD 0 0) (z1 : 1 ≤ z) (z2 : z ≤ 16) (hl : (s.W.length : Int) ≤ 4611686018427387904) (hl2 : (r.W.length : Int) ≤ 4611686018427387904) :
    (∃ s' r', rTake s 0 z = (0, 9, s') ∧ rTake r 0 z = (0, 9, r') ∧ Ok s' n ∧ Ok r' m ∧ s'.W = s.W ∧ r'.W = r.W) ∨
    ∃ p s' r' back', rTake s 0 z = (p, 0, s') ∧ rTake r 0 z = (p, 0, r') ∧ Ok s' n ∧ Ok r' m ∧ fr ≤ p ∧ p + z ≤ to ∧ Rm s'.W fr to (out ++ [(p, (z : Int))]) back' ∧ Rm r'.W fr to (out ++ [(p, (z : Int))]) back' ∧ s'.W.getD 0 0 = r'.W.getD 0 0 ∧ (∀ q ∈ out, Disj q (p, z)) ∧ s'.W.length = s.W.length ∧ r'.W.length = r.W.length ∧ (∀ j, 18 ≤ j → s'.W.getD j 0 = s.W.getD j 0) := by
  rcases take_ok hs h1 z1 z2 hl with ⟨a1, a2, s', a3, a4, a5⟩ | ⟨p, s', back', a1, a2, a3, a4, a5, a6, a7, a8, a9, a10⟩
  · rcases take_ok hr h2 z1 z2 hl2 with ⟨b1, b2, r', b3, b4, b5⟩ | ⟨p, r', back', b1, b2, b3, b4, b5, b6, b7, b8, b9, b10⟩
    · exact .inl ⟨s', r', a3, b3, a4, b4, a5, b5⟩
    · rcases b10 with ⟨c1, c2, c3, c4⟩ | ⟨l, c1, _⟩
      · have := b5.nx1; omega
      · rw [a1] at c1; simp at c1
  · rcases take_ok hr h2 z1 z2 hl2 with ⟨b1, b2, r', b3, b4, b5⟩ | ⟨p', r', back'', b1, b2, b3, b4, b5, b6, b7, b8, b9, b10⟩
    · rcases a10 with ⟨c1, c2, c3, c4⟩ | ⟨l, c1, _⟩
      · have := a5.nx1; omega
      · rw [b1] at c1; simp at c1
    · have key : p = p' ∧ back' = back'' ∧ s'.W.getD 0 0 = r'.W.getD 0 0 := by
        rcases a10 with ⟨c1, c2, c3, c4⟩ | ⟨l, c1, c2, c3⟩
        · rcases b10 with ⟨d1, d2, d3, d4⟩ | ⟨l', d1, d2, d3⟩
          · exact ⟨by rw [c3, d3, e0], by rw [c2, d2], by rw [c4, d4, e0]⟩
          · rw [c1] at d1; simp at d1
        · rcases b10 with ⟨d1, d2, d3, d4⟩ | ⟨l', d1, d2, d3⟩
          · rw [d1] at c1; simp at c1
          · rw [c1] at d1
            obtain ⟨rfl, hp⟩ := List.append_inj' d1 rfl
            exact ⟨by simpa using hp, by rw [c2, d2], by rw [c3, d3, e0]⟩
      obtain ⟨rfl, rfl, k3⟩ := key
      exact .inr ⟨p, s', r', back', a1, b1, a2, b2, a3, a4, a5, b5, k3, a6, a7, b7, a8⟩
end Go.Proofs.Ytcgdpclhlepofaa
/- Queues in a room, on plain words: a queue made, a word put in. No program in sight. -/
namespace Go.Proofs.Ytcgdpclhlepofaa
open Go.RowKit
set_option linter.unusedVariables false

/-- behind a put, behind a get -/
def wrt (s : St) (a x : Int) : St := { gone s (true, a, x) with W := s.W.set a.toNat x }
def rdt (s : St) (a : Int) : St := gone s (false, a, 0)
theorem wrt_W (s : St) (a x : Int) : (wrt s a x).W = s.W.set a.toNat x := rfl
theorem rdt_W (s : St) (a : Int) : (rdt s a).W = s.W := rfl
theorem wrt_ok {s : St} {n : Nat} (h : Ok s (n + 1)) (a x : Int) : Ok (wrt s a x) n := (h.gone _).setW _
theorem rdt_ok {s : St} {n : Nat} (h : Ok s (n + 1)) (a : Int) : Ok (rdt s a) n := h.gone _
theorem bput_0 {s : St} {n : Nat} (h : Ok s (n + 1)) {a : Int} (ha : a < s.W.length) (x : Int) : bput 0 s a x = (0, wrt s a x) := by unfold bput; rw [if_pos (by decide), sput_live h ha]; rfl
theorem bget_live {s : St} {n : Nat} (h : Ok s (n + 1)) {a : Int} (ha : a < s.W.length) : bget 0 s a = (s.W.getD a.toNat 0, 0, rdt s a) := by rw [bget_0, sget_live h ha]; rfl
theorem gs {W : List Int} {i j : Int} (x : Int) (hi : 0 ≤ i) (hl : i < W.length) (hj : 0 ≤ j) : (W.set i.toNat x).getD j.toNat 0 = if i = j then x else W.getD j.toNat 0 := by
  rw [getD_set_]
  by_cases e : i = j
  · subst e; rw [if_pos ⟨rfl, by omega⟩, if_pos rfl]
  · rw [if_neg (by omega), if_neg e]
theorem bput_no {e : Int} (he : e ≠ 0) (s : St) (a x : Int) : bput e s a x = (e, s) := by unfold bput; rw [if_neg (by simpa using he)]

theorem qLayGo_s (q : Int) (n : Nat) (k e : Int) (s : St) {e1 : Int} {s1 : St} (h : bput e s (uAdd q k) 0 = (e1, s1)) : qLayGo q (n + 1) k e s = qLayGo q n (k + 1) e1 s1 := by rw [qLayGo, h]
theorem qNew_law {s r : St} {n m : Nat} {c : Int} {qs : List Qr} {back : Nat → List Int} (hs : Ok s (n + 7)) (hr : Ok r (m + 4)) (h : Qi s.W r.W c qs back) :
    (∃ s' r', qNew s 0 = (0, 9, s') ∧ rTake r 0 3 = (0, 9, r') ∧ Ok s' n ∧ Ok r' m ∧ s'.W = s.W ∧ r'.W = r.W) ∨
    ∃ p s' r' back', qNew s 0 = (p, 0, s') ∧ rTake r 0 3 = (p, 0, r') ∧ Ok s' n ∧ Ok r' m ∧ 0 ≤ p ∧ p ≤ 4611686018427387904 ∧ s'.W.length = s.W.length ∧ r'.W.length = r.W.length ∧ Qi s'.W r'.W c (qs ++ [⟨p, [], []⟩]) back' := by
  have hs3 : Ok s ((n + 3) + 4) := hs
  rcases take_two (z := 3) hs3 hr h.rm h.rr h.eq0 (by omega) (by omega) h.lw h.lr with ⟨s', r', a1, a2, a3, a4, a5, a6⟩ | ⟨p, s1, r', back', a1, a2, a3, a4, a5, a6, a7, a8, a9, a10, a11, a12, a13⟩
  · left
    refine ⟨s', r', ?_, a2, a3.mono (by omega), a4, a5, a6⟩
    have e : qLayGo 0 3 0 9 s' = (9, s') := (qLayGo_s _ _ _ _ _ (bput_no (by decide) _ _ _)).trans ((qLayGo_s _ _ _ _ _ (bput_no (by decide) _ _ _)).trans (qLayGo_s _ _ _ _ _ (bput_no (by decide) _ _ _)))
    have a1 : rTake s 0 3 = (0, 9, s') := a1
    unfold qNew
    simp only [a1, e]
    rfl
  · right
    have t0 := a7.to0
    have hlw := h.lw
    have hl1 : p + 3 ≤ (s1.W.length : Int) := by simpa using Int.le_trans a6 t0
    have b1 : Ok s1 ((n + 2) + 1) := a3
    have b2 := wrt_ok b1 p 0
    have b3 := wrt_ok b2 (p + 1) 0
    have b4 := wrt_ok b3 (p + 2) 0
    have hmem : ((p, (3 : Int)) : Int × Int) ∈ outs qs ++ [(p, ((3 : Nat) : Int))] := by simp
    have r1 := a7.put (j := p) hmem (by simp only; omega) (by simp only; omega) 0
    have r2 := r1.put (j := p + 1) hmem (by simp only; omega) (by simp only; omega) 0
    have r3 := r2.put (j := p + 2) hmem (by simp only; omega) (by simp only; omega) 0
    have hW : (wrt (wrt (wrt s1 p 0) (p + 1) 0) (p + 2) 0).W = ((s1.W.set p.toNat 0).set (p + 1).toNat 0).set (p + 2).toNat 0 := rfl
    have hg : ∀ j : Int, 0 ≤ j → (((s1.W.set p.toNat 0).set (p + 1).toNat 0).set (p + 2).toNat 0).getD j.toNat 0 = if p + 2 = j then 0 else if p + 1 = j then 0 else if p = j then 0 else s1.W.getD j.toNat 0 := fun j hj => by
      rw [gs _ (by omega) (by simp; omega) hj, gs _ (by omega) (by simp; omega) hj, gs _ (by omega) (by omega) hj]
    refine ⟨p, _, r', back', ?_, a2, b4, a4, by omega, by omega, ?_, a12, ?_⟩
    · have u0 : uAdd p 0 = p := by rw [uAdd_id (by omega) (by omega)]; omega
      have u1 : uAdd p (0 + 1) = p + 1 := by rw [uAdd_id (by omega) (by omega)]; omega
      have u2 : uAdd p (0 + 1 + 1) = p + 2 := by rw [uAdd_id (by omega) (by omega)]; omega
      have h0 : bput 0 s1 (uAdd p 0) 0 = (0, wrt s1 p 0) := by rw [u0, bput_0 b1 (by omega)]
      have h1 : bput 0 (wrt s1 p 0) (uAdd p (0 + 1)) 0 = (0, wrt (wrt s1 p 0) (p + 1) 0) := by rw [u1, bput_0 b2 (by rw [wrt_W]; simp; omega)]
      have h2 : bput 0 (wrt (wrt s1 p 0) (p + 1) 0) (uAdd p (0 + 1 + 1)) 0 = (0, wrt (wrt (wrt s1 p 0) (p + 1) 0) (p + 2) 0) := by rw [u2, bput_0 b3 (by rw [wrt_W, wrt_W]; simp; omega)]
      have e : qLayGo p 3 0 0 s1 = (0, wrt (wrt (wrt s1 p 0) (p + 1) 0) (p + 2) 0) := (qLayGo_s _ _ _ _ _ h0).trans ((qLayGo_s _ _ _ _ _ h1).trans (qLayGo_s _ _ _ _ _ h2))
      have a1 : rTake s 0 3 = (p, 0, s1) := a1
      unfold qNew
      simp only [a1, e]
      rfl
    · rw [hW]; simp [a11]
    · have ho : outs (qs ++ [⟨p, [], []⟩]) = outs qs ++ [(p, ((3 : Nat) : Int))] := by rw [outs_append]; simp [outs, pcs]
      refine ⟨by rw [ho, hW]; exact r3, by rw [ho]; exact a8, ?_, fun q hq => ?_, by rw [hW]; simp; omega, by rw [a12]; exact h.lr⟩
      · rw [hW, show (0 : Nat) = ((0 : Int)).toNat from rfl, hg 0 (by omega), if_neg (by omega), if_neg (by omega), if_neg (by omega)]
        exact a9
      · rcases List.mem_append.1 hq with hq | hq
        · refine (h.st q hq).keep fun pc hpc j hj1 hj2 => ?_
          have hpo : pc ∈ outs qs := by unfold outs; exact List.mem_flatMap.2 ⟨q, hq, hpc⟩
          have hd := a10 pc hpo
          have hi := h.rm.outIn pc hpo
          unfold Disj at hd
          simp only at hd
          rw [hW, hg j (by omega), if_neg (by omega), if_neg (by omega), if_neg (by omega)]
          exact a13 _ (by omega)
        · obtain rfl : q = ⟨p, [], []⟩ := by simpa using hq
          rw [hW]
          refine ⟨?_, ?_, ?_, trivial⟩
          · rw [hg _ (by simp only; omega)]; simp [hdOr]
          · rw [hg _ (by simp only; omega)]; simp [topOf_nil]
          · rw [hg _ (by simp only; omega)]; simp
end Go.Proofs.Ytcgdpclhlepofaa
/- Queues in a room, on plain words: a word put into a queue. No program in sight. -/
namespace Go.Proofs.Ytcgdpclhlepofaa
open Go.RowKit
set_option linter.unusedVariables false

structure Apt (a b : List Qr) (q : Qr) : Prop where
  hn : ∀ n ∈ q.nodes, Disj (q.hd, 3) (n, 2)
  nn : q.nodes.Pairwise fun x y => Disj (x, 2) (y, 2)
  oth : ∀ q', q' ∈ a ∨ q' ∈ b → ∀ u ∈ pcs q', ∀ v ∈ pcs q, Disj u v
theorem outs_mid (a b : List Qr) (q : Qr) : outs (a ++ q :: b) = outs a ++ (pcs q ++ outs b) := by rw [outs_append, outs_cons]
theorem mem_outs {qs : List Qr} {q : Qr} (hq : q ∈ qs) {p : Int × Int} (hp : p ∈ pcs q) : p ∈ outs qs := List.mem_flatMap.2 ⟨q, hq, hp⟩
theorem Qi.apt {W R : List Int} {c : Int} {a b : List Qr} {q : Qr} {back : Nat → List Int} (h : Qi W R c (a ++ q :: b) back) : Apt a b q := by
  have ho := h.rm.oo
  rw [outs_mid, List.pairwise_append] at ho
  obtain ⟨_, h1, h2⟩ := ho
  rw [List.pairwise_append] at h1
  obtain ⟨h3, _, h4⟩ := h1
  unfold pcs at h3
  rw [List.pairwise_cons] at h3
  obtain ⟨h5, h6⟩ := h3
  refine ⟨fun n hn => h5 _ (List.mem_map.2 ⟨n, hn, rfl⟩), List.pairwise_map.1 h6, fun q' hq' u hu v hv => ?_⟩
  rcases hq' with hq' | hq'
  · exact h2 u (mem_outs hq' hu) v (by simp [hv])
  · exact (h4 v hv u (mem_outs hq' hu)).symm
theorem Qi.inn {W R : List Int} {c : Int} {qs : List Qr} {back : Nat → List Int} (h : Qi W R c qs back) {q : Qr} (hq : q ∈ qs) {p : Int × Int} (hp : p ∈ pcs q) : 18 ≤ p.1 ∧ p.1 + p.2 ≤ c ∧ p.1 + p.2 ≤ (W.length : Int) ∧ p.1 + p.2 ≤ (R.length : Int) := by
  have h1 := h.rm.outIn p (mem_outs hq hp)
  have h2 := h.rm.nx1
  have h3 := h.rm.to0
  have h4 := h.rr.to0
  omega
theorem pcs_hd (q : Qr) : (q.hd, (3 : Int)) ∈ pcs q := by simp [pcs]
theorem pcs_nd {q : Qr} {n : Int} (h : n ∈ q.nodes) : (n, (2 : Int)) ∈ pcs q := by simp [pcs, h]

/-- pieces of two cells without a common cell are few -/
theorem cnt_le : ∀ (n : Nat) (l : List Int) (lo hi : Int), l.length ≤ n → l.Pairwise (fun x y => Disj (x, 2) (y, 2)) → (∀ x ∈ l, lo ≤ x ∧ x + 2 ≤ hi) → lo ≤ hi → 2 * (l.length : Int) ≤ hi - lo
  | _, [], lo, hi, _, _, _, h => by simp; omega
  | 0, y :: t, lo, hi, hn, _, _, _ => by simp at hn
  | n + 1, y :: t, lo, hi, hn, hp, hi', h => by
    rw [List.pairwise_cons] at hp
    obtain ⟨h1, h2⟩ := hp
    have hy := hi' y (by simp)
    have hlen : t.length = (t.filter fun x => decide (x + 2 ≤ y)).length + (t.filter fun x => decide (¬ (decide (x + 2 ≤ y)) = true)).length := by
      rw [← List.countP_eq_length_filter, ← List.countP_eq_length_filter]
      exact List.length_eq_countP_add_countP _
    have hn' : t.length ≤ n := by simpa using hn
    have k1 := cnt_le n (t.filter fun x => decide (x + 2 ≤ y)) lo y (by omega) (h2.filter _) (fun x hx => by
      obtain ⟨hx1, hx2⟩ := List.mem_filter.1 hx
      have := hi' x (by simp [hx1])
      simp at hx2
      omega) (by omega)
    have k2 := cnt_le n (t.filter fun x => decide (¬ (decide (x + 2 ≤ y)) = true)) (y + 2) hi (by omega) (h2.filter _) (fun x hx => by
      obtain ⟨hx1, hx2⟩ := List.mem_filter.1 hx
      have := hi' x (by simp [hx1])
      have hd := h1 x hx1
      unfold Disj at hd
      simp at hx2 hd
      omega) (by omega)
    simp only [List.length_cons]
    omega
theorem Qi.cnt {W R : List Int} {c : Int} {a b : List Qr} {q : Qr} {back : Nat → List Int} (h : Qi W R c (a ++ q :: b) back) : 2 * (q.nodes.length : Int) ≤ c - 18 := by
  have hq : q ∈ a ++ q :: b := by simp
  have h0 := h.inn hq (pcs_hd q)
  refine cnt_le _ q.nodes 18 c (Nat.le_refl _) h.apt.nn (fun x hx => ?_) (by omega)
  have := h.inn hq (pcs_nd hx)
  simp only at this
  omega

theorem qPut_law {s r : St} {n m : Nat} {c : Int} {a b : List Qr} {q : Qr} {back : Nat → List Int} (x : Int) (hs : Ok s (n + 11)) (hr : Ok r (m + 4)) (h : Qi s.W r.W c (a ++ q :: b) back) :
    (∃ s' r', qPut s 0 q.hd x = (9, s') ∧ rTake r 0 2 = (0, 9, r') ∧ Ok s' n ∧ Ok r' m ∧ s'.W = s.W ∧ r'.W = r.W) ∨
    ∃ p s' r' back', qPut s 0 q.hd x = (0, s') ∧ rTake r 0 2 = (p, 0, r') ∧ Ok s' n ∧ Ok r' m ∧ 0 ≤ p ∧ p ≤ 4611686018427387904 ∧ s'.W.length = s.W.length ∧ r'.W.length = r.W.length ∧ Qi s'.W r'.W c (a ++ ⟨q.hd, q.nodes ++ [p], q.words ++ [x]⟩ :: b) back' := by
  have hs3 : Ok s ((n + 7) + 4) := hs
  have hq : q ∈ a ++ q :: b := by simp
  obtain ⟨g1, g2, g3, g4⟩ := h.inn hq (pcs_hd q)
  simp only at g1 g2 g3 g4
  have hlw := h.lw
  have hA := h.apt
  have hst := h.st q hq
  rcases take_two (z := 2) hs3 hr h.rm h.rr h.eq0 (by omega) (by omega) h.lw h.lr with ⟨s', r', a1, a2, a3, a4, a5, a6⟩ | ⟨p, s1, r', back', a1, a2, a3, a4, a5, a6, a7, a8, a9, a10, a11, a12, a13⟩
  · left
    refine ⟨s', r', ?_, a2, a3.mono (by omega), a4, a5, a6⟩
    have a1 : rTake s 0 2 = (0, 9, s') := a1
    have k1 : ∀ s a x, bput 9 s a x = (9, s) := fun s a x => bput_no (by decide) s a x
    have k2 : ∀ s a, bget 9 s a = (0, 9, s) := fun s a => bget_no (by decide) s a
    unfold qPut
    simp only [a1, k1, k2]
    rfl
  · right
    have t0 := a7.to0
    have hl1 : p + 2 ≤ (s1.W.length : Int) := by simpa using Int.le_trans a6 t0
    have e18 : ∀ j : Int, 18 ≤ j → s1.W.getD j.toNat 0 = s.W.getD j.toNat 0 := fun j hj => a13 _ (by omega)
    have dh : Disj (q.hd, 3) (p, 2) := a10 _ (mem_outs hq (pcs_hd q))
    have hmp : ((p, (2 : Int)) : Int × Int) ∈ outs (a ++ q :: b) ++ [(p, ((2 : Nat) : Int))] := by simp
    have hmh : ((q.hd, (3 : Int)) : Int × Int) ∈ outs (a ++ q :: b) ++ [(p, ((2 : Nat) : Int))] := List.mem_append_left _ (mem_outs hq (pcs_hd q))
    -- where the last link lies
    obtain ⟨L, hL⟩ : ∃ L : Int, (q.nodes = [] ∧ L = q.hd) ∨ ∃ ns d, q.nodes = ns ++ [d] ∧ L = d + 1 := by
      rcases List.eq_nil_or_concat q.nodes with e | ⟨ns, d, e⟩
      · exact ⟨q.hd, .inl ⟨e, rfl⟩⟩
      · exact ⟨d + 1, .inr ⟨ns, d, by simpa using e, rfl⟩⟩
    have HL := Lib.hid hL
    clear hL
    have hLin : ∃ pc ∈ pcs q, pc.1 ≤ L ∧ L < pc.1 + pc.2 := by
      rcases HL.out with ⟨e, rfl⟩ | ⟨ns, d, e, rfl⟩
      · exact ⟨_, pcs_hd q, by simp, by simp only; omega⟩
      · exact ⟨(d, 2), pcs_nd (by rw [e]; simp), by simp only; omega, by simp only; omega⟩
    obtain ⟨pc, hpc, hL1, hL2⟩ := hLin
    obtain ⟨i1, i2, i3, i4⟩ := h.inn hq hpc
    have dpc : Disj pc (p, 2) := a10 _ (mem_outs hq hpc)
    have hmL : pc ∈ outs (a ++ q :: b) ++ [(p, ((2 : Nat) : Int))] := List.mem_append_left _ (mem_outs hq hpc)
    have hL3 : L ≠ q.hd + 1 ∧ L ≠ q.hd + 2 := by
      rcases HL.out with ⟨e, rfl⟩ | ⟨ns, d, e, rfl⟩
      · omega
      · have := hA.hn d (by rw [e]; simp)
        unfold Disj at this
        simp only at this
        omega
    unfold Disj at dh dpc
    simp only at dh dpc
    have b1 : Ok s1 ((n + 6) + 1) := a3
    have b2 := wrt_ok b1 p x
    have b3 := wrt_ok b2 (p + 1) 0
    have b4 := rdt_ok b3 (q.hd + 1)
    have b5 := wrt_ok b4 L (p + 1)
    have b6 := wrt_ok b5 (q.hd + 1) (p + 1)
    have b7 := rdt_ok b6 (q.hd + 2)
    have b8 := wrt_ok b7 (q.hd + 2) (q.nodes.length + 1)
    have r1 := a7.put (j := p) hmp (by simp only; omega) (by simp only; omega) x
    have r2 := r1.put (j := p + 1) hmp (by simp only; omega) (by simp only; omega) 0
    have r3 := r2.put (j := L) hmL hL1 hL2 (p + 1)
    have r4 := r3.put (j := q.hd + 1) hmh (by simp only; omega) (by simp only; omega) (p + 1)
    have r5 := r4.put (j := q.hd + 2) hmh (by simp only; omega) (by simp only; omega) (q.nodes.length + 1)
    obtain ⟨W', hW'⟩ : ∃ W', W' = ((((s1.W.set p.toNat x).set (p + 1).toNat 0).set L.toNat (p + 1)).set (q.hd + 1).toNat (p + 1)).set (q.hd + 2).toNat ((q.nodes.length : Int) + 1) := ⟨_, rfl⟩
    have hlen1 : (s1.W.length : Int) = s.W.length := by rw [a11]
    have hg : ∀ j : Int, 0 ≤ j → W'.getD j.toNat 0 = if q.hd + 2 = j then (q.nodes.length : Int) + 1 else if q.hd + 1 = j then p + 1 else if L = j then p + 1 else if p + 1 = j then 0 else if p = j then x else s1.W.getD j.toNat 0 := fun j hj => by
      rw [hW', gs _ (by omega) (by simp; omega) hj, gs _ (by omega) (by simp; omega) hj, gs _ (by omega) (by simp; omega) hj, gs _ (by omega) (by simp; omega) hj, gs _ (by omega) (by omega) hj]
    have v1 : ((s1.W.set p.toNat x).set (p + 1).toNat 0).getD (q.hd + 1).toNat 0 = topOf q.nodes := by
      rw [gs _ (by omega) (by simp; omega) (by omega), gs _ (by omega) (by omega) (by omega), if_neg (by omega), if_neg (by omega), e18 _ (by omega)]
      exact hst.last
    have v2 : ((((s1.W.set p.toNat x).set (p + 1).toNat 0).set L.toNat (p + 1)).set (q.hd + 1).toNat (p + 1)).getD (q.hd + 2).toNat 0 = q.nodes.length := by
      rw [gs _ (by omega) (by simp; omega) (by omega), gs _ (by omega) (by simp; omega) (by omega), gs _ (by omega) (by simp; omega) (by omega), gs _ (by omega) (by omega) (by omega), if_neg (by omega), if_neg (by omega), if_neg (by omega), if_neg (by omega), e18 _ (by omega)]
      exact hst.count
    refine ⟨p, wrt (rdt (wrt (wrt (rdt (wrt (wrt s1 p x) (p + 1) 0) (q.hd + 1)) L (p + 1)) (q.hd + 1) (p + 1)) (q.hd + 2)) (q.hd + 2) (q.nodes.length + 1), r', back', ?_, a2, b8, a4, by omega, by omega, ?_, a12, ?_⟩
    · have hcnt := h.cnt
      have hto := h.rm.to0
      have u1 : uAdd p 1 = p + 1 := uAdd_id (by omega) (by omega)
      have u2 : uAdd q.hd 1 = q.hd + 1 := uAdd_id (by omega) (by omega)
      have u3 : uAdd q.hd 2 = q.hd + 2 := uAdd_id (by omega) (by omega)
      have u4 : uAdd (q.nodes.length : Int) 1 = q.nodes.length + 1 := uAdd_id (by omega) (by omega)
      have a1 : rTake s 0 2 = (p, 0, s1) := a1
      have f1 : bput 0 s1 p x = (0, wrt s1 p x) := bput_0 b1 (by omega) _
      have f2 : bput 0 (wrt s1 p x) (uAdd p 1) 0 = (0, wrt (wrt s1 p x) (p + 1) 0) := by rw [u1, bput_0 b2 (by rw [wrt_W]; simp; omega)]
      have f3 : bget 0 (wrt (wrt s1 p x) (p + 1) 0) (uAdd q.hd 1) = (topOf q.nodes, 0, rdt (wrt (wrt s1 p x) (p + 1) 0) (q.hd + 1)) := by
        rw [u2, bget_live b3 (by rw [wrt_W, wrt_W]; simp; omega), wrt_W, wrt_W, v1]
      have f4 : (if (topOf q.nodes == 0) = true then bput 0 (rdt (wrt (wrt s1 p x) (p + 1) 0) (q.hd + 1)) q.hd (uAdd p 1) else bput 0 (rdt (wrt (wrt s1 p x) (p + 1) 0) (q.hd + 1)) (uAdd (IntKind.u64.wrap (topOf q.nodes - 1)) 1) (uAdd p 1)) = (0, wrt (rdt (wrt (wrt s1 p x) (p + 1) 0) (q.hd + 1)) L (p + 1)) := by
        rw [u1]
        rcases HL.out with ⟨e, e2⟩ | ⟨ns, d, e, e2⟩
        · rw [e, topOf_nil, if_pos (by decide), e2]
          exact bput_0 b4 (by rw [rdt_W, wrt_W, wrt_W]; simp; omega) _
        · rw [e, topOf_snoc, if_neg (by simp; omega), uw_id (by omega) (by omega), uAdd_id (by omega) (by omega), show d + 1 - 1 + 1 = L by omega]
          exact bput_0 b4 (by rw [rdt_W, wrt_W, wrt_W]; simp; omega) _
      have f5 : bput 0 (wrt (rdt (wrt (wrt s1 p x) (p + 1) 0) (q.hd + 1)) L (p + 1)) (uAdd q.hd 1) (uAdd p 1) = (0, wrt (wrt (rdt (wrt (wrt s1 p x) (p + 1) 0) (q.hd + 1)) L (p + 1)) (q.hd + 1) (p + 1)) := by
        rw [u1, u2, bput_0 b5 (by rw [wrt_W, rdt_W, wrt_W, wrt_W]; simp; omega)]
      have f6 : bget 0 (wrt (wrt (rdt (wrt (wrt s1 p x) (p + 1) 0) (q.hd + 1)) L (p + 1)) (q.hd + 1) (p + 1)) (uAdd q.hd 2) = ((q.nodes.length : Int), 0, rdt (wrt (wrt (rdt (wrt (wrt s1 p x) (p + 1) 0) (q.hd + 1)) L (p + 1)) (q.hd + 1) (p + 1)) (q.hd + 2)) := by
        rw [u3, bget_live b6 (by rw [wrt_W, wrt_W, rdt_W, wrt_W, wrt_W]; simp; omega), wrt_W, wrt_W, rdt_W, wrt_W, wrt_W, v2]
      have f7 : bput 0 (rdt (wrt (wrt (rdt (wrt (wrt s1 p x) (p + 1) 0) (q.hd + 1)) L (p + 1)) (q.hd + 1) (p + 1)) (q.hd + 2)) (uAdd q.hd 2) (uAdd (q.nodes.length : Int) 1) = (0, wrt (rdt (wrt (wrt (rdt (wrt (wrt s1 p x) (p + 1) 0) (q.hd + 1)) L (p + 1)) (q.hd + 1) (p + 1)) (q.hd + 2)) (q.hd + 2) (q.nodes.length + 1)) := by
        rw [u3, u4, bput_0 b7 (by rw [rdt_W, wrt_W, wrt_W, rdt_W, wrt_W, wrt_W]; simp; omega)]
      unfold qPut
      simp only [a1, f1, f2, f3, f4, f5, f6, f7]
    · show (((((s1.W.set p.toNat x).set (p + 1).toNat 0).set L.toNat (p + 1)).set (q.hd + 1).toNat (p + 1)).set (q.hd + 2).toNat ((q.nodes.length : Int) + 1)).length = _
      simp [a11]
    · have eW : (wrt (rdt (wrt (wrt (rdt (wrt (wrt s1 p x) (p + 1) 0) (q.hd + 1)) L (p + 1)) (q.hd + 1) (p + 1)) (q.hd + 2)) (q.hd + 2) (q.nodes.length + 1)).W = W' := hW'.symm
      rw [eW]
      have hperm : (outs (a ++ q :: b) ++ [(p, ((2 : Nat) : Int))]).Perm (outs (a ++ ⟨q.hd, q.nodes ++ [p], q.words ++ [x]⟩ :: b)) := by
        rw [outs_mid, outs_mid]
        have e : pcs ⟨q.hd, q.nodes ++ [p], q.words ++ [x]⟩ = pcs q ++ [(p, 2)] := by simp [pcs]
        rw [e]
        simp only [List.append_assoc]
        exact List.Perm.append_left _ (List.Perm.append_left _ List.perm_append_comm)
      rw [← hW'] at r5
      refine ⟨r5.perm hperm, a8.perm hperm, ?_, fun q' hq' => ?_, by rw [hW']; simp; omega, by rw [a12]; exact h.lr⟩
      · rw [show (0 : Nat) = ((0 : Int)).toNat from rfl, hg 0 (by omega), if_neg (by omega), if_neg (by omega), if_neg (by omega), if_neg (by omega), if_neg (by omega)]
        exact a9
      · by_cases hold : q' ∈ a ∨ q' ∈ b
        · have hq'' : q' ∈ a ++ q :: b := by rcases hold with h | h <;> simp [h]
          refine (h.st q' hq'').keep fun u hu j hj1 hj2 => ?_
          have d1 := hA.oth q' hold u hu _ (pcs_hd q)
          have d2 := hA.oth q' hold u hu _ hpc
          have d3 := a10 u (mem_outs hq'' hu)
          obtain ⟨k1, k2, k3, k4⟩ := h.inn hq'' hu
          unfold Disj at d1 d2 d3
          simp only at d1 d2 d3
          rw [hg j (by omega), if_neg (by omega), if_neg (by omega), if_neg (by omega), if_neg (by omega), if_neg (by omega)]
          exact e18 j (by omega)
        · have hq3 : q' = ⟨q.hd, q.nodes ++ [p], q.words ++ [x]⟩ := by
            rcases List.mem_append.1 hq' with h1 | h1
            · exact absurd (.inl h1) hold
            · rcases List.mem_cons.1 h1 with h1 | h1
              · exact h1
              · exact absurd (.inr h1) hold
          subst hq3
          have wp : W'.getD p.toNat 0 = x := by rw [hg p (by omega), if_neg (by omega), if_neg (by omega), if_neg (by omega), if_neg (by omega), if_pos rfl]
          have wp1 : W'.getD (p + 1).toNat 0 = 0 := by rw [hg (p + 1) (by omega), if_neg (by omega), if_neg (by omega), if_neg (by omega), if_pos rfl]
          refine ⟨?_, ?_, ?_, ?_⟩
          · simp only
            rcases HL.out with ⟨e, rfl⟩ | ⟨ns, d, e, rfl⟩
            · rw [hg q.hd (by omega), if_neg (by omega), if_neg (by omega), if_pos rfl, e]; rfl
            · have hd := hA.hn d (by rw [e]; simp)
              unfold Disj at hd
              simp only at hd
              rw [hg q.hd (by omega), if_neg (by omega), if_neg (by omega), if_neg (by omega), if_neg (by omega), if_neg (by omega), e18 _ (by omega), hst.first, e]
              cases ns <;> rfl
          · simp only
            rw [hg (q.hd + 1) (by omega), if_neg (by omega), if_pos rfl, topOf_snoc]
          · simp only
            rw [hg (q.hd + 2) (by omega), if_pos rfl]; simp
          · simp only
            rcases HL.out with ⟨e, rfl⟩ | ⟨ns, d, e, rfl⟩
            · have hw : q.words = [] := List.eq_nil_of_length_eq_zero (by rw [← hst.lnk.len, e]; rfl)
              rw [e, hw]
              exact ⟨wp, wp1, trivial⟩
            · have hlk := hst.lnk
              have hnn := hA.nn
              rw [e] at hlk hnn ⊢
              rw [List.pairwise_append] at hnn
              have hdd := hA.hn d (by rw [e]; simp)
              have hdp := a10 _ (mem_outs hq (pcs_nd (q := q) (n := d) (by rw [e]; simp)))
              obtain ⟨f1, f2, f3, f4⟩ := h.inn hq (pcs_nd (q := q) (n := d) (by rw [e]; simp))
              unfold Disj at hdd hdp
              simp only at hdd hdp f1 f2 f3 f4
              refine Lnk.snoc (Lnk.lead (W := s.W) hlk (fun y hy => ?_) ?_ ?_) wp wp1
              · have hyd := hnn.2.2 y hy d (by simp)
                have hyh := hA.hn y (by rw [e]; simp [hy])
                have hyp := a10 _ (mem_outs hq (pcs_nd (q := q) (n := y) (by rw [e]; simp [hy])))
                obtain ⟨f1, f2, f3, f4⟩ := h.inn hq (pcs_nd (q := q) (n := y) (by rw [e]; simp [hy]))
                unfold Disj at hyd hyh hyp
                simp only at hyd hyh hyp f1 f2 f3 f4
                constructor
                · rw [hg y (by omega), if_neg (by omega), if_neg (by omega), if_neg (by omega), if_neg (by omega), if_neg (by omega), e18 _ (by omega)]
                · rw [hg (y + 1) (by omega), if_neg (by omega), if_neg (by omega), if_neg (by omega), if_neg (by omega), if_neg (by omega), e18 _ (by omega)]
              · rw [hg d (by omega), if_neg (by omega), if_neg (by omega), if_neg (by omega), if_neg (by omega), if_neg (by omega), e18 _ (by omega)]
              · rw [hg (d + 1) (by omega), if_neg (by omega), if_neg (by omega), if_pos rfl]
end Go.Proofs.Ytcgdpclhlepofaa
