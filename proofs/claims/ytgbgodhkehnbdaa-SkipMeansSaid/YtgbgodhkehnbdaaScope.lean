/- A scope in which the run jumps back to one label: the rounds from the label on are walked once, the way to it apart. -/
import Derived.Test.YtgbgodhkehnbdaaRows
import Derived.WalkKit
import Derived.ScopeJumps
import Derived.WalkMore
namespace Go.Proofs.Ytgbgodhkehnbdaa
section
variable {P : Program} {Q : Exit → Act → World → Prop} {a : Act} {w : World}

/-- J bears a number, which every jump lowers. -/
theorem wp_scope_ghost {c tail : Code} (l : Nat) (J : Nat → Act → World → Prop) (hf : findLabel c l = some (Code.seq Code.skip tail))
    (pass : ∀ n a w, J n a w → ∀ K : Act → World → Prop, (∀ m a' w', m < n → J m a' w' → K a' w') → tail.wp P (Exit.jump l K Q) a w)
    (first : ∀ K : Act → World → Prop, (∀ n a w, J n a w → tail.wp P (Exit.jump l K Q) a w) → c.wp P (Exit.jump l K Q) a w) : (Code.scope c).wp P Q a w := by
  have key : ∀ n a w, J n a w → ∀ b k cs, ∃ e a' w', Q e a' w' ∧ Arrives P (lone (b.at a (.code tail :: .inScope c :: k)) cs w) b k cs e a' w' := by
    intro n
    induction n using Nat.strongRecOn with
    | _ n ih =>
      intro a w hJ b k cs
      have hg : gotoIn l (.inScope c :: k) = some (.code (Code.seq Code.skip tail) :: .inScope c :: k) := by simp [gotoIn, hf]
      obtain ⟨e, a₁, w₁, hq, harr⟩ := pass n a w hJ (fun a' w' => ∃ m, m < n ∧ J m a' w') (fun m a' w' h1 h2 => ⟨m, h1, h2⟩) b (.inScope c :: k) cs
      cases e with
      | normal => exact ⟨.normal, a₁, w₁, hq, Steps.trans harr (.one step_inScope)⟩
      | exit id => exact ⟨.exit id, a₁, w₁, hq, fun k' hk => harr k' (by simp [exitTo, hk])⟩
      | goto l' =>
        obtain ⟨rfl, m, hm, hJ'⟩ := hq
        obtain ⟨e₂, a₂, w₂, hq₂, harr₂⟩ := ih m hm a₁ w₁ hJ' b k cs
        exact ⟨e₂, a₂, w₂, hq₂, .of_steps (harr _ hg) (.of_steps (.head step_seq (.one step_skip)) harr₂)⟩
      | ret => exact ⟨_, a₁, w₁, hq, harr⟩
      | panic ch => exact ⟨_, a₁, w₁, hq, harr⟩
      | outgrown => exact ⟨_, a₁, w₁, hq, harr⟩
  intro b k cs
  have hg : gotoIn l (.inScope c :: k) = some (.code (Code.seq Code.skip tail) :: .inScope c :: k) := by simp [gotoIn, hf]
  obtain ⟨e, a₁, w₁, hq, harr⟩ := first (fun a' w' => ∃ m, J m a' w') (fun n a w hJ => pass n a w hJ _ fun m a' w' _ h2 => ⟨m, h2⟩) b (.inScope c :: k) cs
  cases e with
  | normal => exact ⟨.normal, a₁, w₁, hq, .head step_scope (Steps.trans harr (.one step_inScope))⟩
  | exit id => exact ⟨.exit id, a₁, w₁, hq, fun k' hk => .head step_scope (harr k' (by simp [exitTo, hk]))⟩
  | goto l' =>
    obtain ⟨rfl, m, hJ'⟩ := hq
    obtain ⟨e₂, a₂, w₂, hq₂, harr₂⟩ := key m a₁ w₁ hJ' b k cs
    exact ⟨e₂, a₂, w₂, hq₂, .of_steps (.head step_scope (harr _ hg)) (.of_steps (.head step_seq (.one step_skip)) harr₂)⟩
  | ret => exact ⟨_, a₁, w₁, hq, .of_steps (.one step_scope) harr⟩
  | panic ch => exact ⟨_, a₁, w₁, hq, .of_steps (.one step_scope) harr⟩
  | outgrown => exact ⟨_, a₁, w₁, hq, .of_steps (.one step_scope) harr⟩
@[go_sem] theorem Exit.jump_normal {l : Nat} {J : Act → World → Prop} : Exit.jump l J Q .normal a w = Q .normal a w := rfl
@[go_sem] theorem Exit.jump_exit {l : Nat} {J : Act → World → Prop} (id : Nat) : Exit.jump l J Q (.exit id) a w = Q (.exit id) a w := rfl
@[go_sem] theorem Exit.jump_ret {l : Nat} {J : Act → World → Prop} : Exit.jump l J Q .ret a w = Q .ret a w := rfl
@[go_sem] theorem Exit.jump_panic {l : Nat} {J : Act → World → Prop} (ch : List PanicEntry) : Exit.jump l J Q (.panic ch) a w = Q (.panic ch) a w := rfl
end
end Go.Proofs.Ytgbgodhkehnbdaa
