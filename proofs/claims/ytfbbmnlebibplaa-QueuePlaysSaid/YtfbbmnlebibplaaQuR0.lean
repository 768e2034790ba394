/- The document's chains on plain words, and what the queue's nodes come to where no call is refused. No program in sight. -/
import Derived.Test.YtfbbmnlebibplaaQueueFn
import Derived.Test.YtfbbmnlebibplaaRm
namespace Go.Proofs.Ytfbbmnlebibplaa
open Go.RowKit
set_option linter.unusedVariables false

def chainGo (W : List Int) (most : Int) : Nat → Int → List Int → List Int × Bool
  | 0, _, l => (l, true)
  | k + 1, n, l => if n = 0 ∨ most < (l.length : Int) then (l, true) else if (W.length : Int) ≤ n then (l, false) else chainGo W most k (W.getD n.toNat 0) (l ++ [n - 1])
def wholeB (W : List Int) (q : Int) (l : List Int) (ok : Bool) : Prop := ok = true ∧ (l.length : Int) = W.getD (q + 2).toNat 0 ∧ W.getD (q + 1).toNat 0 = topOf l
instance (W : List Int) (q : Int) (l : List Int) (ok : Bool) : Decidable (wholeB W q l ok) := by unfold wholeB; infer_instance
def whole (W : List Int) (q : Int) : List Int × Bool :=
  if (W.length : Int) ≤ q + 2 then ([], false) else
  if 65536 < W.getD (q + 2).toNat 0 then ([], false) else
  match chainGo W (W.getD (q + 2).toNat 0) 65538 (W.getD q.toNat 0) [] with
  | (l, ok) => if wholeB W q l ok then (l, true) else ([], false)

theorem chainGo_in (W : List Int) (hW : ∀ x ∈ W, 0 ≤ x ∧ x ≤ 18446744073709551615) (most : Int) : ∀ (k : Nat) (n : Int) (l : List Int), 0 ≤ n → (∀ x ∈ l, 0 ≤ x ∧ x + 1 < (W.length : Int)) → ∀ x ∈ (chainGo W most k n l).1, 0 ≤ x ∧ x + 1 < (W.length : Int)
  | 0, _, _, _, h => h
  | k + 1, n, l, hn, h => by
    rw [chainGo]
    split
    · exact h
    · split
      · exact h
      · refine chainGo_in W hW most k _ _ (getD_bd hW _).1 fun x hx => (List.mem_append.1 hx).elim (h x) fun hx => ?_
        obtain rfl : x = n - 1 := by simpa using hx
        omega
theorem chainGo_len (W : List Int) (most : Int) : ∀ (k : Nat) (n : Int) (l : List Int), ((l.length : Int) ≤ most + 1) → ((chainGo W most k n l).1.length : Int) ≤ most + 1
  | 0, _, _, h => h
  | k + 1, n, l, h => by
    rw [chainGo]
    split
    · exact h
    · split
      · exact h
      · exact chainGo_len W most k _ _ (by simp; omega)
theorem whole_in {W : List Int} {q : Int} (hW : ∀ x ∈ W, 0 ≤ x ∧ x ≤ 18446744073709551615) {l : List Int} {ok : Bool} (h : whole W q = (l, ok)) : ∀ x ∈ l, 0 ≤ x ∧ x + 1 < (W.length : Int) := by
  unfold whole at h
  split at h
  · simp at h; obtain ⟨rfl, _⟩ := h; simp
  · split at h
    · simp at h; obtain ⟨rfl, _⟩ := h; simp
    · have hi := chainGo_in W hW (W.getD (q + 2).toNat 0) 65538 (W.getD q.toNat 0) [] (getD_bd hW _).1 (by simp)
      rcases hq : chainGo W (W.getD (q + 2).toNat 0) 65538 (W.getD q.toNat 0) [] with ⟨l1, ok1⟩
      rw [hq] at h hi
      simp only at h hi
      split at h
      · simp at h; obtain ⟨rfl, _⟩ := h; exact hi
      · simp at h; obtain ⟨rfl, _⟩ := h; simp
theorem whole_len {W : List Int} {q : Int} {l : List Int} {ok : Bool} (h : whole W q = (l, ok)) : (l.length : Int) ≤ 65537 := by
  unfold whole at h
  split at h
  · simp at h; obtain ⟨rfl, _⟩ := h; simp
  · split at h
    · simp at h; obtain ⟨rfl, _⟩ := h; simp
    · rcases hq : chainGo W (W.getD (q + 2).toNat 0) 65538 (W.getD q.toNat 0) [] with ⟨l1, ok1⟩
      rw [hq] at h
      simp only at h
      split at h
      · rename_i h1 h2 h3
        simp at h; obtain ⟨rfl, _⟩ := h
        have := h3.2.1
        omega
      · simp at h; obtain ⟨rfl, _⟩ := h; simp

/-- where no call is refused -/
theorem sget_out {s : St} {n : Nat} (h : Ok s n) {a : Int} (ha : (s.W.length : Int) ≤ a) : sget s a = (0, 4, gone s (false, a, 0)) := by
  unfold sget
  rw [if_neg (by have := h.1; omega), if_pos ha]
  rfl
theorem bget_0 (s : St) (a : Int) : bget 0 s a = sget s a := by unfold bget; rw [if_pos (by decide)]
theorem bget_no {e : Int} (he : e ≠ 0) (s : St) (a : Int) : bget e s a = (0, e, s) := by unfold bget; rw [if_neg (by simpa using he)]

/-- refused: by one of two errors, with nothing put -/
def Refd (W : List Int) (n : Nat) (r : List Int × Int × St) : Prop := r.1 = [] ∧ (r.2.1 = 330 ∨ r.2.1 = 4) ∧ r.2.2.W = W ∧ Ok r.2.2 n
def Told (W : List Int) (n : Nat) (l : List Int) (r : List Int × Int × St) : Prop := r.1 = l ∧ r.2.1 = 0 ∧ r.2.2.W = W ∧ Ok r.2.2 n

theorem chEnd_ok {many : Int} {l : List Int} {b en : Int} {s : St} (h : en = b) (hl : (l.length : Int) = many) : chEnd many (l, b, en, 0, s) = (l, 0, s) := by
  unfold chEnd; simp only; rw [if_neg (by decide), if_neg (by simp [h, hl])]
theorem chEnd_no {many : Int} {l : List Int} {b en : Int} {s : St} (h : en ≠ b ∨ (l.length : Int) ≠ many) : chEnd many (l, b, en, 0, s) = ([], 330, s) := by
  unfold chEnd; simp only; rw [if_neg (by decide), if_pos (h.elim (fun h => .inl (by simpa using h)) (fun h => .inr (by simpa using h)))]
theorem chEnd_err {many : Int} {l : List Int} {b en e : Int} {s : St} (h : e ≠ 0) : chEnd many (l, b, en, e, s) = ([], e, s) := by
  unfold chEnd; simp only; rw [if_pos (by simpa using h)]

theorem topOf_bd {l : List Int} {m : Int} (h : ∀ x ∈ l, 0 ≤ x ∧ x + 1 < m) (hm : 0 ≤ m) : 0 ≤ topOf l ∧ topOf l ≤ m := by
  unfold topOf
  rcases hl : l.getLast? with _ | x
  · simp; omega
  · have := h x (List.mem_of_getLast? hl)
    simp only; omega

theorem qChain_law (many : Int) : ∀ (k : Nat) (n en : Int) (l : List Int) (s : St) (m : Nat), Ok s (m + k) → Fits s → 0 ≤ n → n ≤ 18446744073709551615 → (l.length : Int) ≤ many → many ≤ 65536 → many + 2 ≤ l.length + k → (∀ x ∈ l, 0 ≤ x ∧ x + 1 < (s.W.length : Int)) →
    ∀ l1 ok, chainGo s.W many k n l = (l1, ok) →
      (ok = true ∧ (l1.length : Int) = many ∧ en = topOf l1 → Told s.W m l1 (chEnd many (qChain many k n (topOf l) en l s))) ∧
      (¬ (ok = true ∧ (l1.length : Int) = many ∧ en = topOf l1) → Refd s.W m (chEnd many (qChain many k n (topOf l) en l s)))
  | 0, n, en, l, s, m, hok, hf, hn, hn', hl, hm, hk, hin, l1, ok, h => by omega
  | k + 1, n, en, l, s, m, hok, hf, hn, hn', hl, hm, hk, hin, l1, ok, h => by
    rw [chainGo] at h
    have hok' : Ok s m := hok.mono (by omega)
    by_cases h0 : n = 0
    · rw [if_pos (.inl h0)] at h
      simp at h
      obtain ⟨rfl, rfl⟩ := h
      rw [qChain_end h0]
      refine ⟨fun h => ?_, fun h => ?_⟩
      · rw [chEnd_ok h.2.2 h.2.1]; exact ⟨rfl, rfl, rfl, hok'⟩
      · rw [chEnd_no (if h1 : en = topOf l then .inr fun h2 => h ⟨rfl, h2, h1⟩ else .inl h1)]
        exact ⟨rfl, .inl rfl, rfl, hok'⟩
    · rw [if_neg (by omega)] at h
      have hb := topOf_bd hin (by omega)
      have hln := hf.len
      by_cases h2 : (l.length : Int) = many
      · rw [qChain_long h0 h2, chEnd_no (.inl (by rw [uAdd_id (by omega) (by omega)]; omega))]
        have hno : ¬ (ok = true ∧ (l1.length : Int) = many ∧ en = topOf l1) := by
          rintro ⟨rfl, h3, _⟩
          by_cases h4 : (s.W.length : Int) ≤ n
          · rw [if_pos h4] at h; simp at h
          · rw [if_neg h4] at h
            cases k with
            | zero => rw [chainGo] at h; simp at h; rw [← h] at h3; simp at h3; omega
            | succ k =>
              rw [chainGo, if_pos (.inr (by simp; omega))] at h
              simp at h; rw [← h] at h3; simp at h3; omega
        exact ⟨fun h => absurd h hno, fun _ => ⟨rfl, .inl rfl, rfl, hok'⟩⟩
      · have ea : uAdd (IntKind.u64.wrap (n - 1)) 1 = n := by rw [uw_id (by omega) (by omega), uAdd_id (by omega) (by omega)]; omega
        have hok1 : Ok s ((m + k) + 1) := hok
        by_cases h4 : (s.W.length : Int) ≤ n
        · rw [if_pos h4] at h
          simp at h
          obtain ⟨rfl, rfl⟩ := h
          have hq : bget 0 s (uAdd (IntKind.u64.wrap (n - 1)) 1) = (0, 4, gone s (false, n, 0)) := by rw [bget_0, ea, sget_out hok1 h4]
          rw [qChain_step h0 h2 hq, if_neg (by decide), chEnd_err (by decide)]
          exact ⟨fun h => absurd h.1 (by decide), fun _ => ⟨rfl, .inr rfl, rfl, (hok1.gone (false, n, 0)).mono (by omega)⟩⟩
        · rw [if_neg h4] at h
          have hq : bget 0 s (uAdd (IntKind.u64.wrap (n - 1)) 1) = (s.W.getD n.toNat 0, 0, gone s (false, n, 0)) := by rw [bget_0, ea, sget_live hok1 (by omega)]
          rw [qChain_step h0 h2 hq, if_pos rfl]
          have et : topOf (l ++ [IntKind.u64.wrap (n - 1)]) = n := by rw [topOf_snoc, uw_id (by omega) (by omega)]; omega
          have hgd := getD_bd hf.words n.toNat
          have := qChain_law many k (s.W.getD n.toNat 0) en (l ++ [IntKind.u64.wrap (n - 1)]) (gone s (false, n, 0)) m (hok1.gone _) ⟨hf.words, hf.len, hf.code⟩ hgd.1 hgd.2 (by simp; omega) hm (by simp; omega) (fun x hx => (List.mem_append.1 hx).elim (hin x) fun hx => by
            obtain rfl : x = IntKind.u64.wrap (n - 1) := by simpa using hx
            rw [uw_id (by omega) (by omega)]
            show 0 ≤ n - 1 ∧ n - 1 + 1 < (s.W.length : Int)
            omega) l1 ok (by rw [uw_id (by omega) (by omega)]; exact h)
          rw [et] at this
          exact this

theorem qNodes_law {q : Int} {s : St} {m : Nat} (hok : Ok s (m + 65541)) (hf : Fits s) (hq : 0 ≤ q) {l : List Int} {ok : Bool} (h : whole s.W q = (l, ok)) :
    (ok = true → Told s.W m l (qNodes s q)) ∧ (ok = false → Refd s.W m (qNodes s q)) := by
  have hln := hf.len
  have e0 : ∀ (s2 : St) (a : Int), qNodes s q = qNodes s q := fun _ _ => rfl
  unfold whole at h
  have hok1 : Ok s ((m + 65540) + 1) := hok.mono (by omega)
  unfold qNodes
  rw [bget_0]
  by_cases h1 : q < (s.W.length : Int)
  · rw [sget_live hok1 h1]
    simp only
    have hok2 : Ok (gone s (false, q, 0)) ((m + 65539) + 1) := hok1.gone _
    rw [uAdd_id (a := q) (b := 2) (by omega) (by omega), uAdd_id (a := q) (b := 1) (by omega) (by omega), bget_0]
    by_cases h2 : (s.W.length : Int) ≤ q + 2
    · rw [if_pos h2] at h
      simp at h
      obtain ⟨rfl, rfl⟩ := h
      rw [sget_out hok2 h2]
      simp only
      rw [bget_no (e := 4) (by decide)]
      simp only
      rw [if_pos (by decide)]
      exact ⟨fun h => (nomatch h), fun _ => ⟨rfl, .inr rfl, rfl, (hok2.gone (false, q + 2, 0)).mono (by omega)⟩⟩
    · rw [if_neg h2] at h
      rw [sget_live hok2 (by show q + 2 < (s.W.length : Int); omega)]
      simp only
      have hok3 : Ok (gone (gone s (false, q, 0)) (false, q + 2, 0)) ((m + 65538) + 1) := hok2.gone _
      rw [bget_0, sget_live hok3 (by show q + 1 < (s.W.length : Int); omega)]
      simp only
      rw [if_neg (by decide)]
      have hok4 : Ok (gone (gone (gone s (false, q, 0)) (false, q + 2, 0)) (false, q + 1, 0)) (m + 65538) := hok3.gone _
      have eW : (gone (gone (gone s (false, q, 0)) (false, q + 2, 0)) (false, q + 1, 0)).W = s.W := rfl
      have hf4 : Fits (gone (gone (gone s (false, q, 0)) (false, q + 2, 0)) (false, q + 1, 0)) := ⟨hf.words, hf.len, hf.code⟩
      generalize gone (gone (gone s (false, q, 0)) (false, q + 2, 0)) (false, q + 1, 0) = s4 at *
      have g1 := getD_bd hf.words q.toNat
      have g2 := getD_bd hf.words (q + 2).toNat
      simp only [gone_W] at *
      by_cases h3 : 65536 < s.W.getD (q + 2).toNat 0
      · simp only [h3, ite_true] at h ⊢
        simp at h
        obtain ⟨rfl, rfl⟩ := h
        rw [if_neg (by decide), if_pos (.inl (by decide))]
        exact ⟨fun h => (nomatch h), fun _ => ⟨rfl, .inl rfl, eW, hok4.mono (by omega)⟩⟩
      · simp only [h3, ite_false] at h ⊢
        rcases hq : chainGo s.W (s.W.getD (q + 2).toNat 0) 65538 (s.W.getD q.toNat 0) [] with ⟨l1, ok1⟩
        rw [hq] at h
        simp only at h
        have key := qChain_law (s.W.getD (q + 2).toNat 0) 65538 (s.W.getD q.toNat 0) (s.W.getD (q + 1).toNat 0) [] s4 m hok4 hf4 g1.1 g1.2 (by simp only [List.length_nil]; exact g2.1) (by omega) (by simp only [List.length_nil]; omega) (by simp) l1 ok1 (by rw [eW]; exact hq)
        rw [topOf_nil, eW] at key
        by_cases hc : wholeB s.W q l1 ok1
        · rw [if_pos hc] at h
          simp at h
          obtain ⟨rfl, rfl⟩ := h
          exact ⟨fun _ => key.1 hc, fun h => (nomatch h)⟩
        · rw [if_neg hc] at h
          simp at h
          obtain ⟨rfl, rfl⟩ := h
          exact ⟨fun h => (nomatch h), fun _ => key.2 hc⟩
  · rw [if_pos (by omega)] at h
    simp at h
    obtain ⟨rfl, rfl⟩ := h
    rw [sget_out hok1 (by omega)]
    simp only
    rw [bget_no (e := 4) (by decide)]
    simp only
    rw [bget_no (e := 4) (by decide)]
    simp only
    rw [if_pos (by decide)]
    exact ⟨fun h => (nomatch h), fun _ => ⟨rfl, .inr rfl, rfl, (hok1.gone (false, q, 0)).mono (by omega)⟩⟩

theorem qWordsGo_law : ∀ (l : List Int) (s : St) (m : Nat), Ok s (m + l.length) → (∀ x ∈ l, 0 ≤ x ∧ x + 1 < (s.W.length : Int)) → ∃ s', qWordsGo l 0 s = (l.map (fun x => s.W.getD x.toNat 0), 0, s') ∧ s'.W = s.W ∧ Ok s' m
  | [], s, m, h, _ => ⟨s, rfl, rfl, h⟩
  | n :: l, s, m, h, hin => by
    have h1 : Ok s ((m + l.length) + 1) := h
    have h2 := hin n (by simp)
    obtain ⟨s', e, hW, hok⟩ := qWordsGo_law l (gone s (false, n, 0)) m (h1.gone _) fun x hx => hin x (by simp [hx])
    refine ⟨s', ?_, hW, hok⟩
    rw [qWordsGo, bget_0, sget_live h1 (by omega)]
    simp only
    rw [e]
    rfl
theorem qWords_law {q : Int} {s : St} {m : Nat} (hok : Ok s (m + 131080)) (hf : Fits s) (hq : 0 ≤ q) {l : List Int} {ok : Bool} (h : whole s.W q = (l, ok)) :
    (ok = true → Told s.W m (l.map (fun x => s.W.getD x.toNat 0)) (qWords s q)) ∧ (ok = false → Refd s.W m (qWords s q)) := by
  obtain ⟨k1, k2⟩ := qNodes_law (m := m + 65539) (hok.mono (by omega)) hf hq h
  have hl := whole_len h
  have hin := whole_in hf.words h
  rcases hn : qNodes s q with ⟨l2, e2, s2⟩
  rw [hn] at k1 k2
  unfold qWords
  rw [hn]
  simp only
  refine ⟨fun h1 => ?_, fun h1 => ?_⟩
  · obtain ⟨he1, he2, hW, hok2⟩ := k1 h1
    simp only at he1 he2 hW hok2
    subst he1
    subst he2
    obtain ⟨s3, e3, hW3, hok3⟩ := qWordsGo_law l2 s2 m (hok2.mono (by omega)) (by rw [hW]; exact hin)
    rw [e3]
    simp only
    rw [if_neg (by decide)]
    exact ⟨by simp only; rw [hW], rfl, hW3.trans hW, hok3⟩
  · obtain ⟨rfl, he, hW, hok2⟩ := k2 h1
    simp only at he hW hok2
    rw [qWordsGo]
    simp only
    rw [if_pos (by rcases he with rfl | rfl <;> decide)]
    exact ⟨rfl, he, hW, hok2.mono (by omega)⟩
theorem qDrop_law {q : Int} {s : St} {m : Nat} (hok : Ok s (m + 65541)) (hf : Fits s) (hq : 0 ≤ q) {l : List Int} (h : whole s.W q = (l, false)) :
    ∃ e s', qDrop s 0 q = (e, s') ∧ (e = 330 ∨ e = 4) ∧ s'.W = s.W ∧ Ok s' m := by
  obtain ⟨_, k2⟩ := qNodes_law (m := m) hok hf hq h
  rcases hn : qNodes s q with ⟨l2, e2, s2⟩
  rw [hn] at k2
  obtain ⟨rfl, he, hW, hok2⟩ := k2 rfl
  simp only at he hW hok2
  refine ⟨e2, s2, ?_, he, hW, hok2⟩
  unfold qDrop
  rw [hn]
  simp only
  rw [qGiveGo]
  simp only
  rw [if_neg (by rcases he with rfl | rfl <;> decide)]
end Go.Proofs.Ytfbbmnlebibplaa
