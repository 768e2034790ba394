/- What a round keeps: beside what the loop's body may reach no cells turn. -/
import Derived.Test.YtkjeobcfaolcaaaDoorRf
import Derived.Test.YtkjeobcfaolcaaaDoorIxT0
import Derived.Test.YtkjeobcfaolcaaaDoorIxO
namespace Go.Proofs.YtkjeobcfaolcaaaDoor
open Go.RowKit
set_option linter.unusedVariables false

/-- Beside R's blocks no block of cells turns; what R has besides is new. -/
structure KpR (R : World → Nat → Prop) (A B : World) : Prop where
  size : A.heap.size ≤ B.heap.size
  cells : ∀ k o, A.heap[k]? = some o → o.isCells = true → ¬ R A k → B.heap[k]? = A.heap[k]?
  new : ∀ k, R B k → R A k ∨ A.heap.size ≤ k
theorem KpR.refl (R : World → Nat → Prop) (W : World) : KpR R W W := ⟨Nat.le_refl _, fun _ _ _ _ _ => rfl, fun _ h => .inl h⟩
theorem KpR.trans {R : World → Nat → Prop} {A B C : World} (h : KpR R A B) (g : KpR R B C) : KpR R A C where
  size := Nat.le_trans h.size g.size
  cells := fun k o hk ho hR => by
    have h1 := h.cells k o hk ho hR
    have hlt := (Array.getElem?_eq_some_iff.1 hk).1
    exact (g.cells k o (h1.trans hk) ho fun hr => (h.new k hr).elim hR fun h2 => by omega).trans h1
  new := fun k hk => (g.new k hk).elim (h.new k) fun h2 => .inr (Nat.le_trans h.size h2)
theorem KpR.turn {R : World → Nat → Prop} {W : World} {l : Nat} {o o' : Obj} (hl : W.heap[l]? = some o) (ho : o.isCells = false) (hR : ∀ k, R (W.putObj l o') k → R W k) : KpR R W (W.putObj l o') where
  size := by simp
  cells := fun k o1 hk ho1 _ => World.putObj_heap_other fun e => by
    subst e
    rw [hl] at hk
    cases hk
    rw [ho] at ho1
    cases ho1
  new := fun k hk => .inl (hR k hk)
theorem KpR.of_fr {R : World → Nat → Prop} {A B : World} {F F' : Nat → Prop} (h : Fr F A F' B) (h1 : ∀ k, F k → R A k) (h2 : ∀ k, R B k → R A k ∨ A.heap.size ≤ k) : KpR R A B where
  size := h.size
  cells := fun k o hk _ hR => h.block k (Array.getElem?_eq_some_iff.1 hk).1 fun hf => hR (h1 k hf)
  new := h2
theorem KpR.blk {R : World → Nat → Prop} {A B : World} (h : KpR R A B) {g : Nat} {t : TypeId} {cs : Array Value} (hb : Blk A g t cs) (hR : ¬ R A g) : Blk B g t cs := (h.cells g _ hb rfl hR).trans hb
theorem KpR.wl {R : World → Nat → Prop} {A B : World} (h : KpR R A B) {v : Value} {l : List Int} (hb : Wl A v l) (hR : ∀ k, own v k → ¬ R A k) : Wl B v l := by
  rcases hb.2 with ⟨h1, h2⟩ | ⟨g, off, cap, cur, h1, h2, h3, h4⟩
  · exact ⟨hb.1, .inl ⟨h1, h2⟩⟩
  · refine hb.keep fun k hk => ?_
    have e : g = k := by simpa [own, h1, Value.ownBlock] using hk
    subst e
    exact h.cells g _ h3 rfl (hR g hk)
theorem KpR.tab {R : World → Nat → Prop} {A B : World} (h : KpR R A B) (hT : Tab A) (hR : ¬ R A 1) : Tab B := by
  have h0 := hT 0 (by decide)
  obtain ⟨o, ho, hc⟩ := cells_of_cell h0
  exact hT.keep (h.cells 1 o ho hc hR)
theorem Fr.grownBy {F : Nat → Prop} {A B : World} (h : Fr (fun _ => False) A F B) : A.grownBy B none := ⟨h.os, h.tape, h.output, h.size, fun k hk _ => h.block k hk fun h => h⟩
theorem Fr.abides {β : Type} {B0 : Nat} {J : β → World → Prop} (hJ : AbidesFrom B0 J) {F : Nat → Prop} {A B : World} (h : Fr (fun _ => False) A F B) {s : β} (hs : J s A) : J s B :=
  hJ s A B none hs h.grownBy fun r e => by cases e
/-- a cell of a list -/
theorem Wl.cell {w : World} {A : Option Addr} {cp : Nat} {l : List Int} (h : Wl w (.slice A l.length cp) l) {i : Nat} (hi : i < l.length) : ∃ g off, A = some ⟨g, off, none⟩ ∧ ∀ j (hj : j < l.length), w.cell? ⟨g, off + j, none⟩ = some (.int .u64 (l[j]'hj)) := by
  obtain ⟨g, off, cap, e, _, _, _, hc⟩ := Rowv.at_ h (by omega)
  injection e with e1
  refine ⟨g, off, e1, fun j hj => ?_⟩
  have := (hc j (by omega)).1
  rw [this]
  simp [u64s, hj]
end Go.Proofs.YtkjeobcfaolcaaaDoor
