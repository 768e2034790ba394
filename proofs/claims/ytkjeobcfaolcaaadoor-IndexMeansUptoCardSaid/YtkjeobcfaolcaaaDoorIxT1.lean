/- A key's slot, as a function; homes. -/
import Derived.Test.YtkjeobcfaolcaaaDoorIxT0
namespace Go.Proofs.YtkjeobcfaolcaaaDoor
set_option linter.unusedVariables false

def hmk (k : Nat) (key : Int) : Nat := (homeOf key k).toNat
theorem hmk_lt {k : Nat} (h1 : 1 ≤ k) (h2 : k ≤ 62) (x : Int) : hmk k x < 2 ^ k := by
  have h := homeOf_bd x h1 h2
  have : ((2 ^ k : Nat) : Int) = (2 : Int) ^ k := by simp
  unfold hmk
  omega
def slotOf (U : Nat → Bool) (K : Nat → Int) (n : Nat) (h : Nat) (key : Int) : Nat := ((lgo U K key n n h 1).getD (0, 0)).1
def askedOf (U : Nat → Bool) (K : Nat → Int) (n : Nat) (h : Nat) (key : Int) : Nat := ((lgo U K key n n h 1).getD (0, 0)).2
section
variable {n : Nat} {hm : Int → Nat} {U : Nat → Bool} {K : Nat → Int} {l : List Int}
theorem TInv.look (h : TInv n hm U K l) (hb : ∀ x, hm x < n) (key : Int) :
    lgo U K key n n (hm key) 1 = some (slotOf U K n (hm key) key, askedOf U K n (hm key) key) ∧ slotOf U K n (hm key) key < n ∧ 1 ≤ askedOf U K n (hm key) key ∧ askedOf U K n (hm key) key ≤ l.length + 1 ∧
      ((key ∈ l ∧ U (slotOf U K n (hm key) key) = true ∧ K (slotOf U K n (hm key) key) = key) ∨
       (key ∉ l ∧ U (slotOf U K n (hm key) key) = false ∧ ∀ e, e < n → onp (hm key) (slotOf U K n (hm key) key) e → U e = true)) := by
  by_cases hk : key ∈ l
  · obtain ⟨j, hj, hu, hkj, d, hd, hl⟩ := h.look_in hb hk (Nat.le_refl n)
    have e1 : slotOf U K n (hm key) key = j := by unfold slotOf; rw [hl]; rfl
    have e2 : askedOf U K n (hm key) key = 1 + d := by unfold askedOf; rw [hl]; rfl
    rw [e1, e2]
    exact ⟨hl, hj, by omega, by omega, .inl ⟨hk, hu, hkj⟩⟩
  · obtain ⟨j, hj, hu, hp, d, hd, hl⟩ := h.look_out hb hk (Nat.le_refl n)
    have e1 : slotOf U K n (hm key) key = j := by unfold slotOf; rw [hl]; rfl
    have e2 : askedOf U K n (hm key) key = 1 + d := by unfold askedOf; rw [hl]; rfl
    rw [e1, e2]
    exact ⟨hl, hj, by omega, by omega, .inr ⟨hk, hu, hp⟩⟩
end
end Go.Proofs.YtkjeobcfaolcaaaDoor
