/- Two tables under the same calls have the same slots. Plain. -/
import Derived.Test.YtkjeobcfaolcaaaDoorIxT4
namespace Go.Proofs.YtkjeobcfaolcaaaDoor
set_option linter.unusedVariables false

def St.same {β γ : Type} (s : St β) (s' : St γ) : Prop := s.U = s'.U ∧ s.K = s'.K
section
variable {β γ : Type} {s : St β} {s' : St γ}
theorem St.same.slot (h : s.same s') (k : Nat) (key : Int) : s.slot k key = s'.slot k key := by unfold St.slot; rw [h.1, h.2]
theorem St.same.asked (h : s.same s') (k : Nat) (key : Int) : s.asked k key = s'.asked k key := by unfold St.asked; rw [h.1, h.2]
theorem St.same.set (h : s.same s') (j : Nat) (key : Int) (x : β) (y : γ) : (s.set j key x).same (s'.set j key y) := by
  constructor
  · funext i; show (if i = j then true else s.U i) = (if i = j then true else s'.U i); rw [h.1]
  · funext i; show (if i = j then key else s.K i) = (if i = j then key else s'.K i); rw [h.2]
theorem St.same.clear (h : s.same s') (j : Nat) (x : β) (y : γ) : (s.clear j x).same (s'.clear j y) := by
  constructor
  · funext i; show (if i = j then false else s.U i) = (if i = j then false else s'.U i); rw [h.1]
  · funext i; show (if i = j then 0 else s.K i) = (if i = j then 0 else s'.K i); rw [h.2]
theorem St.same.put (h : s.same s') (k : Nat) (key : Int) (x : β) (y : γ) : (s.put k key x).same (s'.put k key y) := by
  unfold St.put
  rw [h.slot]
  exact h.set _ _ _ _
theorem fill_same (k : Nat) (f : Int → β) (g : Int → γ) : ∀ (l : List Int) (s : St β) (s' : St γ), s.same s' →
    ((l.map fun key => (key, f key)).foldl (fun s p => s.put k p.1 p.2) s).same ((l.map fun key => (key, g key)).foldl (fun s p => s.put k p.1 p.2) s')
  | [], s, s', h => h
  | x :: l, s, s', h => by
    simp only [List.map_cons, List.foldl_cons]
    exact fill_same k f g l _ _ (h.put k x _ _)
theorem St.same.grown (h : s.same s') (k : Nat) (z : β) (z' : γ) (l : List Int) : (s.grown k z l).same (s'.grown k z' l) :=
  fill_same (k + 1) (fun key => s.X (s.slot k key)) (fun key => s'.X (s'.slot k key)) l (St.zero z) (St.zero z') ⟨rfl, rfl⟩
theorem shift_same (n : Nat) (hm : Int → Nat) (z : β) (z' : γ) : ∀ (r : Nat) (s : St β) (s' : St γ) (f k : Nat), s.same s' → (St.shift n hm z r s f k).same (St.shift n hm z' r s' f k)
  | 0, s, s', f, k, h => h
  | r + 1, s, s', f, k, h => by
    rw [St.shift, St.shift, h.1, h.2]
    split
    · split
      · refine shift_same n hm z z' r _ _ _ _ ?_
        unfold St.move
        rw [h.2]
        exact (h.set _ _ _ _).clear _ _ _
      · exact shift_same n hm z z' r _ _ _ _ h
    · exact h
theorem St.same.take (h : s.same s') (k : Nat) (z : β) (z' : γ) (key : Int) : (s.take k z key).same (s'.take k z' key) := by
  unfold St.take
  rw [h.slot]
  exact shift_same _ _ _ _ _ _ _ _ _ (h.clear _ _ _)
structure Tbl.Same (T : Tbl β) (T' : Tbl γ) : Prop where
  k : T.k = T'.k
  l : T.l = T'.l
  s : T.s.same T'.s
variable {T : Tbl β} {T' : Tbl γ}
theorem Tbl.Same.put (h : T.Same T') (z : β) (z' : γ) (key : Int) (x : β) (y : γ) : (T.put z key x).Same (T'.put z' key y) := by
  unfold Tbl.put
  rw [← h.k, ← h.l]
  split
  · exact ⟨rfl, rfl, h.s.put _ _ _ _⟩
  · split
    · exact ⟨rfl, rfl, (h.s.grown _ _ _ _).put _ _ _ _⟩
    · exact ⟨rfl, rfl, h.s.put _ _ _ _⟩
theorem Tbl.Same.take (h : T.Same T') (z : β) (z' : γ) (key : Int) : (T.take z key).Same (T'.take z' key) := by
  unfold Tbl.take
  rw [← h.k, ← h.l]
  split
  · exact ⟨rfl, rfl, h.s.take _ _ _ _⟩
  · exact ⟨h.k, h.l, h.s⟩
theorem Tbl.Same.asked (h : T.Same T') (key : Int) : T.asked key = T'.asked key := by
  unfold Tbl.asked
  rw [h.k, h.s.asked]
theorem Tbl.Same.new (z : β) (z' : γ) : (Tbl.new z).Same (Tbl.new z') := ⟨rfl, rfl, rfl, rfl⟩
end
end Go.Proofs.YtkjeobcfaolcaaaDoor
