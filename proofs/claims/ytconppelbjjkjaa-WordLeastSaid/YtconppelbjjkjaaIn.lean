/- Arguments that read as lists of words. -/
import Derived.Test.YtconppelbjjkjaaOpen
import Derived.Test.YtconppelbjjkjaaWl
namespace Go.Proofs.Ytconppelbjjkjaa
open Go.RowKit
theorem WordsIn.lies {w : World} {A : Option Addr} {l : List Int} {c : Nat} (h : WordsIn w A l c) : Lies w (.slice A l.length c) l := by
  refine ⟨A, c, rfl, h.cap, fun e => (h.nil e).2, fun j hj => ?_⟩
  cases A with
  | none => have := (h.nil rfl).1; subst this; simp at hj
  | some ad =>
    have h0 := h.cell ad rfl 0 (by omega)
    have hj' := h.cell ad rfl j hj
    have e0 := spotless h0
    have e1 : ad = ⟨ad.block, ad.off, none⟩ := by
      have : ad.add 0 = ad := by unfold Addr.add; rw [if_pos rfl]
      rw [this] at e0
      simpa using e0
    refine ⟨ad.block, ad.off, by rw [← e1], ?_⟩
    rw [e1, Addr.add_lit] at hj'
    exact hj'
end Go.Proofs.Ytconppelbjjkjaa
