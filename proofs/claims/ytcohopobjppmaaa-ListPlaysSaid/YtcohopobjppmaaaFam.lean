/- Things in memory, each with blocks of its own. -/
import Derived.Test.YtcohopobjppmaaaBase
namespace Go.Proofs.Ytcohopobjppmaaa
open Go.RowKit
set_option linter.unusedVariables false

/-- No block has two owners; all lie from B on. -/
structure Fam (B : Nat) (w : World) (X : Nat → Nat → Prop) : Prop where
  lt : ∀ i k, X i k → k < w.heap.size
  ge : ∀ i k, X i k → B ≤ k
  ap : ∀ i j k, X i k → X j k → i = j
  base : B ≤ w.heap.size
def upd (X : Nat → Nat → Prop) (i : Nat) (G : Nat → Prop) : Nat → Nat → Prop := fun j => if j = i then G else X j
theorem upd_eq (X : Nat → Nat → Prop) (i : Nat) (G : Nat → Prop) : upd X i G i = G := by unfold upd; rw [if_pos rfl]
theorem upd_ne (X : Nat → Nat → Prop) {i j : Nat} (G : Nat → Prop) (h : j ≠ i) : upd X i G j = X j := by unfold upd; rw [if_neg h]
section
variable {B : Nat} {w w' : World} {X : Nat → Nat → Prop} {i j : Nat} {G : Nat → Prop}
theorem Fam.not (h : Fam B w X) (hne : i ≠ j) : ∀ k, X i k → ¬ X j k := fun k hi hj => hne (h.ap i j k hi hj)
theorem Fam.keep (h : Fam B w X) (hf : Fr (X i) w G w') (hne : j ≠ i) : ∀ k, X j k → w'.heap[k]? = w.heap[k]? := fun k hk => hf.block k (h.lt j k hk) (h.not hne k hk)
theorem Fam.step (h : Fam B w X) (hf : Fr (X i) w G w') (hG : ∀ k, G k → k < w'.heap.size) : Fam B w' (upd X i G) := by
  have key : ∀ j k, upd X i G j k → (j = i ∧ G k) ∨ (j ≠ i ∧ X j k) := fun j k hk => by
    by_cases e : j = i
    · subst e; rw [upd_eq] at hk; exact .inl ⟨rfl, hk⟩
    · rw [upd_ne X G e] at hk; exact .inr ⟨e, hk⟩
  refine ⟨fun j k hk => ?_, fun j k hk => ?_, fun j j' k hk hk' => ?_, Nat.le_trans h.base hf.size⟩
  · rcases key j k hk with ⟨_, h1⟩ | ⟨_, h1⟩
    · exact hG k h1
    · exact Nat.lt_of_lt_of_le (h.lt j k h1) hf.size
  · rcases key j k hk with ⟨_, h1⟩ | ⟨_, h1⟩
    · exact (hf.new k h1).elim (h.ge i k) fun h2 => Nat.le_trans h.base h2
    · exact h.ge j k h1
  · have no : ∀ j, j ≠ i → X j k → ¬ G k := fun j hj hx hg => (hf.new k hg).elim (fun h1 => hj (h.ap j i k hx h1)) fun h1 => by have := h.lt j k hx; omega
    rcases key j k hk with ⟨e, h1⟩ | ⟨e, h1⟩
    · rcases key j' k hk' with ⟨e', h2⟩ | ⟨e', h2⟩
      · rw [e, e']
      · exact (no j' e' h2 h1).elim
    · rcases key j' k hk' with ⟨e', h2⟩ | ⟨e', h2⟩
      · exact (no j e h1 h2).elim
      · exact h.ap j j' k h1 h2
/-- More memory, nothing old turned but what is not owned, or is owned elsewhere. -/
theorem Fam.size (h : Fam B w X) (hs : w.heap.size ≤ w'.heap.size) : Fam B w' X := ⟨fun i k hk => Nat.lt_of_lt_of_le (h.lt i k hk) hs, h.ge, h.ap, Nat.le_trans h.base hs⟩
theorem Fam.alloc (h : Fam B w X) (o : Obj) : Fam B (w.alloc o) X := h.size (by simp)
theorem Fam.drewN (h : Fam B w X) (n : Nat) : Fam B (w.drewN n) X := h.size (Nat.le_refl _)
theorem Fam.set (h : Fam B w X) (p : Addr) (u : Value) : Fam B (w.setCell p u) X := h.size (by simp [World.setCell])
theorem Fam.less (h : Fam B w X) (hG : ∀ k, G k → X i k) : Fam B w (upd X i G) := by
  have key : ∀ j k, upd X i G j k → X j k := fun j k hk => by
    by_cases e : j = i
    · subst e; rw [upd_eq] at hk; exact hG k hk
    · rwa [upd_ne X G e] at hk
  exact ⟨fun j k hk => h.lt j k (key j k hk), fun j k hk => h.ge j k (key j k hk), fun j j' k h1 h2 => h.ap j j' k (key j k h1) (key j' k h2), h.base⟩
theorem Fam.sub (h : Fam B w X) {f : Nat → Nat} (hf : ∀ i j, f i = f j → i = j) : Fam B w (fun i => X (f i)) :=
  ⟨fun i k hk => h.lt _ k hk, fun i k hk => h.ge _ k hk, fun i j k h1 h2 => hf i j (h.ap _ _ k h1 h2), h.base⟩
theorem Fam.below (h : Fam B w X) (hf : Fr (X i) w G w') : Below B w w' := hf.below (h.ge i) h.base
/-- Two of them turn in one go. -/
theorem Fam.step2 {H : Nat → Prop} (h : Fam B w X) (hne : i ≠ j) (hf : Fr (fun k => X i k ∨ X j k) w (fun k => G k ∨ H k) w') (hG : ∀ k, G k ∨ H k → k < w'.heap.size) (hd : ∀ k, G k → ¬ H k) : Fam B w' (upd (upd X i G) j H) := by
  have key : ∀ l k, upd (upd X i G) j H l k → (l = j ∧ H k) ∨ (l = i ∧ G k) ∨ (l ≠ i ∧ l ≠ j ∧ X l k) := fun l k hk => by
    by_cases e : l = j
    · subst e; rw [upd_eq] at hk; exact .inl ⟨rfl, hk⟩
    · rw [upd_ne _ H e] at hk
      by_cases e' : l = i
      · subst e'; rw [upd_eq] at hk; exact .inr (.inl ⟨rfl, hk⟩)
      · rw [upd_ne X G e'] at hk; exact .inr (.inr ⟨e', e, hk⟩)
  have nw : ∀ l k, l ≠ i → l ≠ j → X l k → ¬ (G k ∨ H k) := fun l k h1 h2 hx hg => (hf.new k hg).elim (fun h3 => h3.elim (fun h4 => h1 (h.ap l i k hx h4)) fun h4 => h2 (h.ap l j k hx h4)) fun h3 => by have := h.lt l k hx; omega
  refine ⟨fun l k hk => ?_, fun l k hk => ?_, fun l l' k hk hk' => ?_, Nat.le_trans h.base hf.size⟩
  · rcases key l k hk with ⟨_, h1⟩ | ⟨_, h1⟩ | ⟨_, _, h1⟩
    · exact hG k (.inr h1)
    · exact hG k (.inl h1)
    · exact Nat.lt_of_lt_of_le (h.lt l k h1) hf.size
  · have : ∀ k, G k ∨ H k → B ≤ k := fun k hg => (hf.new k hg).elim (fun h1 => h1.elim (h.ge i k) (h.ge j k)) fun h1 => Nat.le_trans h.base h1
    rcases key l k hk with ⟨_, h1⟩ | ⟨_, h1⟩ | ⟨_, _, h1⟩
    · exact this k (.inr h1)
    · exact this k (.inl h1)
    · exact h.ge l k h1
  · rcases key l k hk with ⟨e, h1⟩ | ⟨e, h1⟩ | ⟨e, e2, h1⟩
    · rcases key l' k hk' with ⟨e', h2⟩ | ⟨e', h2⟩ | ⟨e', e2', h2⟩
      · rw [e, e']
      · exact (hd k h2 h1).elim
      · exact (nw l' k e' e2' h2 (.inr h1)).elim
    · rcases key l' k hk' with ⟨e', h2⟩ | ⟨e', h2⟩ | ⟨e', e2', h2⟩
      · exact (hd k h1 h2).elim
      · rw [e, e']
      · exact (nw l' k e' e2' h2 (.inl h1)).elim
    · rcases key l' k hk' with ⟨e', h2⟩ | ⟨e', h2⟩ | ⟨e', e2', h2⟩
      · exact (nw l k e e2 h1 (.inr h2)).elim
      · exact (nw l k e e2 h1 (.inl h2)).elim
      · exact h.ap l l' k h1 h2
theorem Fam.keep2 {H : Nat → Prop} {l : Nat} (h : Fam B w X) (hf : Fr (fun k => X i k ∨ X j k) w H w') (h1 : l ≠ i) (h2 : l ≠ j) : ∀ k, X l k → w'.heap[k]? = w.heap[k]? :=
  fun k hk => hf.block k (h.lt l k hk) fun hx => hx.elim (h.not h1 k hk) (h.not h2 k hk)
theorem Fam.below2 {H : Nat → Prop} (h : Fam B w X) (hf : Fr (fun k => X i k ∨ X j k) w H w') : Below B w w' := hf.below (fun k hk => hk.elim (h.ge i k) (h.ge j k)) h.base
end
theorem Fr.side {F F' : Nat → Prop} {w w' : World} (h : Fr F w F' w') (G : Nat → Prop) : Fr (fun k => F k ∨ G k) w (fun k => F' k ∨ G k) w' :=
  (h.wide (G := fun k => F k ∨ G k) fun _ hk => .inl hk).into fun k hk => hk.elim .inl fun hg => .inr (.inl (.inr hg))
end Go.Proofs.Ytcohopobjppmaaa
