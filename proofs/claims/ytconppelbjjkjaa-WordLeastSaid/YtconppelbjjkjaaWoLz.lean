/- WordLeast: the law's walk, as the row asks for it. -/
import Derived.Test.YtconppelbjjkjaaWoLh
namespace Go.Proofs.Ytconppelbjjkjaa
open Go.RowKit
set_option linter.unusedVariables false
theorem wordLeast_law {W : World} {A : Option Addr} {l : List Int} {c : Nat} (h : WordsIn W A l c) :
    Calls Try.prog 7 #[.slice A l.length c] W fun e w' => e = .returned (.bool true) ∧ Below W.heap.size W w' :=
  (wordLeast_walk h).mono fun e w' ⟨he, hf⟩ => ⟨he, hf.below (fun _ h => h.elim) (Nat.le_refl _)⟩
end Go.Proofs.Ytconppelbjjkjaa
