/- QueuePlays: how it begins, on plain words and in memory. -/
import Derived.Test.YtfbbmnlebibplaaQuLaw
namespace Go.Proofs.Ytfbbmnlebibplaa
open Go.RowKit
set_option maxHeartbeats 4000000
set_option linter.unusedVariables false

theorem laid_start (n : Nat) (hn : 18 ≤ n) (hn2 : n ≤ 1000000) : (laidSt n).W.length = n ∧ (laidSt n).left < 0 ∧ Rm (laidSt n).W 18 n [] (fun _ => []) := by
  have h : Ok (⟨List.replicate n 0, -1, 0, 0⟩ : St) (1000 + 18) := ⟨by simp, by unfold Bud; simp⟩
  obtain ⟨s', h1, h2, h3, h4⟩ := lay_ok (x := 18) (y := n) h (by simp; omega) (by simp; omega) (by omega)
  have e : laidSt n = { s' with calls := 0 } := by unfold laidSt; rw [h1]
  rw [e]
  have hl : s'.W.length = n := by rw [h3]; simp
  refine ⟨hl, h2.1, Rm.start (by omega) (by omega) (by rw [hl]; exact Int.le_refl _) fun j => ?_⟩
  rw [h4 j]
  by_cases h0 : j = 0
  · rw [if_pos h0, if_pos h0]
  · rw [if_neg h0, if_neg h0]
    by_cases h1 : j = 1
    · rw [if_pos h1, if_pos h1]
    · rw [if_neg h1, if_neg h1]
      split
      · rfl
      · simp [List.getD_eq_getElem?_getD, List.getElem?_replicate]; split <;> rfl
theorem qi_start (n : Nat) (hn : 18 ≤ n) (hn2 : n ≤ 1000000) : Qi (laidSt n).W (laidSt n).W n [] (fun _ => []) := by
  obtain ⟨h1, h2, h3⟩ := laid_start n hn hn2
  exact ⟨h3, h3, rfl, fun q hq => by simp at hq, by rw [h1]; omega, by rw [h1]; omega⟩
theorem qw_start {W w1 w2 : World} {b1 b2 n : Nat} {F1 F2 : Nat → Prop} (h1 : Wld w1 b1 F1 (laidSt n)) (o1 : ∀ k, F1 k → W.heap.size ≤ k) (hb1 : Below W.heap.size W w1)
    (h2 : Wld w2 b2 F2 (laidSt n)) (o2 : ∀ k, F2 k → w1.heap.size + 1 ≤ k) (hb2 : Below (w1.heap.size + 1) (w1.alloc (.cells #[.pointer (some ⟨b1, 0, none⟩)] 28)) w2) :
    ∃ X, Qw W.heap.size W (w2.alloc (.cells #[.pointer (some ⟨w1.heap.size, 0, none⟩), .pointer (some ⟨b2, 0, none⟩), .slice none 0 0] 31)) w2.heap.size w1.heap.size b2 (.slice none 0 0) (fun _ => 0) X (laidSt n) (laidSt n) [] := by
  have ht := Txw.make h1
  have ht2 : Txw w2 w1.heap.size (fun k => k = w1.heap.size ∨ F1 k) (laidSt n) := ht.keep fun k hk => hb2.block k (by have := ht.lt k hk; simpa using this)
  have hz := hb1.size
  have hz2 := hb2.size
  simp only [World.size_alloc] at hz2
  have hlt1 := h1.lt
  refine ⟨fun i => if i = 0 then (fun k => k = w1.heap.size ∨ F1 k) else if i = 1 then F2 else if i = 2 then (fun k => k = w2.heap.size) else fun _ => False, ⟨fun i k hk => ?_, fun i k hk => ?_, fun i j k hi hj => ?_, by simp; omega⟩, Blk.new _ _ _, ht2.alloc _, h2.alloc _, ?_, fun k => ?_, fun i q hq => by simp at hq, fun i _ k hk => ?_, ?_⟩
  · simp only [World.size_alloc]
    by_cases e0 : i = 0
    · subst e0; simp only [if_true] at hk; have := ht2.lt k hk; omega
    · rw [if_neg e0] at hk
      by_cases e1 : i = 1
      · subst e1; simp only [if_true] at hk; have := h2.lt k hk; omega
      · rw [if_neg e1] at hk
        by_cases e2 : i = 2
        · subst e2; simp only [if_true] at hk; omega
        · rw [if_neg e2] at hk; exact hk.elim
  · by_cases e0 : i = 0
    · subst e0; simp only [if_true] at hk; rcases hk with rfl | hk; exact hz; exact o1 k hk
    · rw [if_neg e0] at hk
      by_cases e1 : i = 1
      · subst e1; simp only [if_true] at hk; have := o2 k hk; omega
      · rw [if_neg e1] at hk
        by_cases e2 : i = 2
        · subst e2; simp only [if_true] at hk; omega
        · rw [if_neg e2] at hk; exact hk.elim
  · have key : ∀ i, (if i = 0 then (fun k => k = w1.heap.size ∨ F1 k) else if i = 1 then F2 else if i = 2 then (fun k => k = w2.heap.size) else fun _ => False : Nat → Prop) k → (i = 0 ∧ k ≤ w1.heap.size) ∨ (i = 1 ∧ w1.heap.size < k ∧ k < w2.heap.size) ∨ (i = 2 ∧ k = w2.heap.size) := fun i hk => by
      by_cases e0 : i = 0
      · subst e0; simp only [if_true] at hk; refine .inl ⟨rfl, ?_⟩; rcases hk with rfl | hk; exact Nat.le_refl _; have := hlt1 k hk; omega
      · rw [if_neg e0] at hk
        by_cases e1 : i = 1
        · subst e1; simp only [if_true] at hk; have := o2 k hk; have := h2.lt k hk; exact .inr (.inl ⟨rfl, by omega, by omega⟩)
        · rw [if_neg e1] at hk
          by_cases e2 : i = 2
          · subst e2; simp only [if_true] at hk; exact .inr (.inr ⟨rfl, hk⟩)
          · rw [if_neg e2] at hk; exact hk.elim
    have a := key i hi
    have b := key j hj
    omega
  · exact Rowv.nil _ _ _ _
  · simp [own, Value.ownBlock]
  · rw [if_neg (by omega), if_neg (by omega), if_neg (by omega)] at hk
    exact hk
  · exact (((hb1.alloc hz _).trans (hb2.mono (by omega)))).alloc (by omega) _
theorem keepCell {B : Nat} {w w' : World} {p : Addr} {v : Value} (hb : Below B w w') (hB : w.heap.size ≤ B) (h : w.cell? p = some v) : w'.cell? p = some v := by
  have hlt : p.block < w.heap.size := Nat.lt_of_not_le fun hh => by
    unfold World.cell? at h
    rw [Array.getElem?_eq_none hh] at h
    cases h
  exact (hb.cell (p := p) (by omega)).trans h
theorem StepP.bel {B : Nat} {W0 w : World} {xb t b : Nat} {c : Int} {m L : Nat} (h : StepP B W0 xb t b c m L w) : Below B W0 w := by
  obtain ⟨v, ps, X, s, r, qs, back, hQ, _⟩ := h
  exact hQ.bel
theorem StepP.mono {B : Nat} {W0 w : World} {xb t b : Nat} {c : Int} {m m' L L' : Nat} (h : StepP B W0 xb t b c m L w) (hm : m' ≤ m) (hL : L ≤ L') : StepP B W0 xb t b c m' L' w := by
  obtain ⟨v, ps, X, s, r, qs, back, hQ, h1, h2, h3, h4, h5, h6, h7⟩ := h
  exact ⟨v, ps, X, s, r, qs, back, hQ, h1, h2, h3.mono hm, h4.mono hm, h5, by omega, h7⟩
theorem StepP.old {B : Nat} {W0 w w' : World} {xb t b : Nat} {c : Int} {m L : Nat} (h : StepP B W0 xb t b c m L w) (hb : Below w.heap.size w w') : StepP B W0 xb t b c m L w' := by
  obtain ⟨v, ps, X, s, r, qs, back, hQ, h1⟩ := h
  exact ⟨v, ps, X, s, r, qs, back, hQ.old hb, h1⟩
end Go.Proofs.Ytfbbmnlebibplaa
