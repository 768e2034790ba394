/- What a call leaves behind beside a list of words of its own; a word of a list set. -/
import Derived.Test.YtcohopobjppmaaaTxC
import Derived.Test.YtcohopobjppmaaaWl
namespace Go.Proofs.Ytcohopobjppmaaa
open Go.RowKit
set_option linter.unusedVariables false
/-- What a call leaves behind, beside a list of words of its own. -/
def LftV (t n B : Nat) (F0 : Nat → Prop) (w0 : World) (s' : St) (v : Value) (l : List Int) (w' : World) : Prop :=
  Fits s' ∧ Bud s' n ∧ Wl w' v l ∧ (∀ k, own v k → B ≤ k) ∧ ∃ F', Txw w' t F' s' ∧ Fr F0 w0 F' w' ∧ ∀ k, own v k → ¬ F' k
theorem LftV.nil {t n B : Nat} {F0 : Nat → Prop} {w0 : World} {s' : St} {w' : World} (h : Lft t n F0 w0 s' w') : LftV t n B F0 w0 s' (.slice none 0 0) [] w' :=
  let ⟨a, b, F', c, d⟩ := h; ⟨a, b, Wl.nil _, (fun k hk => nomatch hk), F', c, d, (fun k hk => nomatch hk)⟩
end Go.Proofs.Ytcohopobjppmaaa
