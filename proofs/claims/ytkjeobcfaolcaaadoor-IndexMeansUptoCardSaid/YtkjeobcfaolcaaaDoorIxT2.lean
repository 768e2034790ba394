/- What a table holds, as a value: a put, a table filled with pairs, a table grown. -/
import Derived.Test.YtkjeobcfaolcaaaDoorIxT1
namespace Go.Proofs.YtkjeobcfaolcaaaDoor
set_option linter.unusedVariables false

theorem snoc_ind {α : Type} {P : List α → Prop} (h0 : P []) (h1 : ∀ l x, P l → P (l ++ [x])) (l : List α) : P l := by
  have h : ∀ r : List α, P r.reverse := fun r => by
    induction r with
    | nil => exact h0
    | cons x r ih => rw [List.reverse_cons]; exact h1 _ x ih
  have := h l.reverse
  rwa [List.reverse_reverse] at this
structure St (β : Type) where
  U : Nat → Bool
  K : Nat → Int
  X : Nat → β
section
variable {β : Type}
def St.zero (z : β) : St β := ⟨fun _ => false, fun _ => 0, fun _ => z⟩
def St.slot (s : St β) (k : Nat) (key : Int) : Nat := slotOf s.U s.K (2 ^ k) (hmk k key) key
def St.asked (s : St β) (k : Nat) (key : Int) : Nat := askedOf s.U s.K (2 ^ k) (hmk k key) key
def St.set (s : St β) (j : Nat) (key : Int) (x : β) : St β := ⟨fun i => if i = j then true else s.U i, fun i => if i = j then key else s.K i, fun i => if i = j then x else s.X i⟩
def St.put (k : Nat) (s : St β) (key : Int) (x : β) : St β := s.set (s.slot k key) key x
def St.fill (k : Nat) (z : β) (pre : List (Int × β)) : St β := pre.foldl (fun s p => s.put k p.1 p.2) (St.zero z)
def St.Inv (s : St β) (k : Nat) (l : List Int) : Prop := TInv (2 ^ k) (hmk k) s.U s.K l
def kadd (l : List Int) (key : Int) : List Int := if key ∈ l then l else l ++ [key]
def kfold (l : List Int) : List Int := l.foldl kadd []
theorem kadd_len (l : List Int) (key : Int) : (kadd l key).length ≤ l.length + 1 := by unfold kadd; split <;> simp
theorem kfold_snoc (l : List Int) (key : Int) : kfold (l ++ [key]) = kadd (kfold l) key := by simp [kfold]
theorem kfold_len : ∀ (l : List Int), (kfold l).length ≤ l.length := fun l => by
  refine snoc_ind (P := fun l => (kfold l).length ≤ l.length) ?_ ?_ l
  · simp [kfold]
  · intro l x ih; rw [kfold_snoc]; have := kadd_len (kfold l) x; simp; omega
theorem kfold_nodup : ∀ (l : List Int), l.Nodup → kfold l = l := fun l => by
  refine snoc_ind (P := fun l => l.Nodup → kfold l = l) ?_ ?_ l
  · intro _; rfl
  · intro l x ih h
    rw [List.nodup_append] at h
    rw [kfold_snoc, ih h.1, kadd, if_neg fun hx => h.2.2 x hx x (by simp) rfl]
theorem St.fill_snoc (k : Nat) (z : β) (pre : List (Int × β)) (p : Int × β) : St.fill k z (pre ++ [p]) = (St.fill k z pre).put k p.1 p.2 := by simp [St.fill]
theorem St.zero_inv (z : β) (k : Nat) : (St.zero z).Inv k [] where
  path := fun j _ hu => by simp [St.zero] at hu
  uniq := fun i j _ _ hu => by simp [St.zero] at hu
  keys := fun x => by simp [St.zero]
  nodup := List.nodup_nil
  room := Nat.two_pow_pos k
/-- A put, over a key that is there or not. -/
theorem St.Inv.put {s : St β} {k : Nat} {l : List Int} (h : s.Inv k l) (h1 : 1 ≤ k) (h2 : k ≤ 62) (key : Int) (x : β) (hr : l.length + 1 < 2 ^ k) : (s.put k key x).Inv k (kadd l key) := by
  obtain ⟨_, hj, _, _, (⟨hk, hu, hkj⟩ | ⟨hk, hu, hp⟩)⟩ := TInv.look h (hmk_lt h1 h2) key
  · rw [kadd, if_pos hk]
    have e1 : (s.put k key x).U = s.U := by
      funext i
      show (if i = s.slot k key then true else s.U i) = s.U i
      split
      · subst_vars; exact hu.symm
      · rfl
    have e2 : (s.put k key x).K = s.K := by
      funext i
      show (if i = s.slot k key then key else s.K i) = s.K i
      split
      · subst_vars; exact hkj.symm
      · rfl
    unfold St.Inv
    rw [e1, e2]
    exact h
  · rw [kadd, if_neg hk]
    exact TInv.put h hk hj hu hp hr
theorem St.fill_inv {k : Nat} (z : β) (h1 : 1 ≤ k) (h2 : k ≤ 62) : ∀ (pre : List (Int × β)), pre.length < 2 ^ k → (St.fill k z pre).Inv k (kfold (pre.map (·.1))) := fun pre => by
  refine snoc_ind (P := fun pre => pre.length < 2 ^ k → (St.fill k z pre).Inv k (kfold (pre.map (·.1)))) ?_ ?_ pre
  · intro _; exact St.zero_inv z k
  · intro pre p ih h
    rw [List.length_append, List.length_singleton] at h
    rw [St.fill_snoc, List.map_append, List.map_cons, List.map_nil, kfold_snoc]
    refine (ih (by omega)).put h1 h2 p.1 p.2 ?_
    have := kfold_len (pre.map (·.1))
    rw [List.length_map] at this
    omega
/-- The pairs that All tells. -/
def St.pairs (s : St β) (k : Nat) (l : List Int) : List (Int × β) := l.map fun key => (key, s.X (s.slot k key))
def St.grown (s : St β) (k : Nat) (z : β) (l : List Int) : St β := St.fill (k + 1) z (s.pairs k l)
theorem St.grown_inv {s : St β} {k : Nat} {l : List Int} (h : s.Inv k l) (z : β) (h2 : k + 1 ≤ 62) : (s.grown k z l).Inv (k + 1) l := by
  have hr := h.room
  have e : (s.pairs k l).map (·.1) = l := by simp [St.pairs, Function.comp_def]
  have := St.fill_inv (k := k + 1) z (by omega) h2 (s.pairs k l) (by rw [St.pairs, List.length_map]; rw [Nat.pow_succ]; omega)
  rw [e, kfold_nodup l h.nodup] at this
  exact this
end
end Go.Proofs.YtkjeobcfaolcaaaDoor
