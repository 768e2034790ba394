/-
  No cell of these rows narrows 'for every input' (looked for: loops, veiled, ifaces, maps, wideKeys, modest, calm, conditions, laid).
  DERIVED. THE GIVEN ROWS OF THIS SEAT. 4 by the template 'for every input the law returns true; each argument reads behind the call as it read before'; 0 by the template 'total and deterministic' (their statements: YtgbgodhkehnbdaaTotals.lean).
  GIVEN WITH THE SEED: the statements are not yours to turn. If you find one false, say at which input.
  Laid BY PROGRAM, IN A SANDBOX (cutbox-rows.mjs): the forced cells as the released guide's own fill.sh prints them over the translation ed87de4046ee0f08… (all of the seat's roots in one cut). By AI agents, Wed Nov 11 2026. No macro, syntax, notation, axiom, sorry.
-/
import Derived.Test.YtgbgodhkehnbdaaChecked
import GoSem.Claim
import GoSem.ClaimJoined
import GoSem.ClaimMapViews
import Derived.JoinedTies
import Derived.KernelRfl
namespace Go.Proofs.Ytgbgodhkehnbdaa
/- THE CELL 'sum', in the pinned program and in every row, IS THE sha256 OF THE DUMP (.gsa) THAT YtgbgodhkehnbdaaProg.lean LOADS. Nothing in Lean hashes anything: it is a label: what it is worth is what the hold of that sum in a sandbox is worth. -/
noncomputable def Try.pinned : Pinned := { name := "ytgbgodhkehnbdaa", sum := "ed87de4046ee0f08032ae0fba2775b51916fe088d3264b1a03cf890e80ed54f7", checked := Try.checked }
namespace Rows
def none {H : Type} : Left H := { results := [], args := [] }

/-- 'parleylaw22.SkipLevels': WHATEVER THE INPUT: true; the input reads as it did. -/
def skipLevelsSpec : ChangeSpec := { name := "skipLevels", fn := fun _ => fun
  | [d] => { results := [.lit (.bool true)], args := [d] }
  | _ => none }
def skipLevelsRow : OpenClaim := { program := "ytgbgodhkehnbdaa", sum := "ed87de4046ee0f08032ae0fba2775b51916fe088d3264b1a03cf890e80ed54f7", func := "parley/parleylaw22.SkipLevels", spec := "skipLevels", unfollowed := true, recurses := true, apart := false }
def SkipLevelsSaid : Prop := skipLevelsRow.holds Try.pinned (OpenSpec.ofChange skipLevelsSpec)

/-- ITS FALSE NEIGHBOUR: 'it returns false'. Refute it at one input. -/
def skipLevelsWrong : ChangeSpec := { name := "skipLevels", fn := fun _ => fun
  | [d] => { results := [.lit (.bool false)], args := [d] }
  | _ => none }
def SkipLevelsWrongFalsely : Prop := skipLevelsRow.holds Try.pinned (OpenSpec.ofChange skipLevelsWrong)

/-- 'parleylaw22.SkipRound': WHATEVER THE INPUT: true; the input reads as it did. -/
def skipRoundSpec : ChangeSpec := { name := "skipRound", fn := fun _ => fun
  | [] => { results := [.lit (.bool true)], args := [] }
  | _ => none }
def skipRoundRow : OpenClaim := { program := "ytgbgodhkehnbdaa", sum := "ed87de4046ee0f08032ae0fba2775b51916fe088d3264b1a03cf890e80ed54f7", func := "parley/parleylaw22.SkipRound", spec := "skipRound", unfollowed := true, recurses := true, apart := false }
def SkipRoundSaid : Prop := skipRoundRow.holds Try.pinned (OpenSpec.ofChange skipRoundSpec)

/-- ITS FALSE NEIGHBOUR: 'it returns false'. Refute it at one input. -/
def skipRoundWrong : ChangeSpec := { name := "skipRound", fn := fun _ => fun
  | [] => { results := [.lit (.bool false)], args := [] }
  | _ => none }
def SkipRoundWrongFalsely : Prop := skipRoundRow.holds Try.pinned (OpenSpec.ofChange skipRoundWrong)

/-- 'parleylaw22.SkipMeans': WHATEVER THE INPUT: true; the input reads as it did. -/
def skipMeansSpec : ChangeSpec := { name := "skipMeans", fn := fun _ => fun
  | [d1, d2] => { results := [.lit (.bool true)], args := [d1, d2] }
  | _ => none }
def skipMeansRow : OpenClaim := { program := "ytgbgodhkehnbdaa", sum := "ed87de4046ee0f08032ae0fba2775b51916fe088d3264b1a03cf890e80ed54f7", func := "parley/parleylaw22.SkipMeans", spec := "skipMeans", unfollowed := true, recurses := true, apart := false }
def SkipMeansSaid : Prop := skipMeansRow.holds Try.pinned (OpenSpec.ofChange skipMeansSpec)

/-- ITS FALSE NEIGHBOUR: 'it returns false'. Refute it at one input. -/
def skipMeansWrong : ChangeSpec := { name := "skipMeans", fn := fun _ => fun
  | [d1, d2] => { results := [.lit (.bool false)], args := [d1, d2] }
  | _ => none }
def SkipMeansWrongFalsely : Prop := skipMeansRow.holds Try.pinned (OpenSpec.ofChange skipMeansWrong)

/-- 'parleylaw22.SkipNil': WHATEVER THE INPUT: true; the input reads as it did. -/
def skipNilSpec : ChangeSpec := { name := "skipNil", fn := fun _ => fun
  | [] => { results := [.lit (.bool true)], args := [] }
  | _ => none }
def skipNilRow : OpenClaim := { program := "ytgbgodhkehnbdaa", sum := "ed87de4046ee0f08032ae0fba2775b51916fe088d3264b1a03cf890e80ed54f7", func := "parley/parleylaw22.SkipNil", spec := "skipNil", unfollowed := true, recurses := true, apart := false }
def SkipNilSaid : Prop := skipNilRow.holds Try.pinned (OpenSpec.ofChange skipNilSpec)

/-- ITS FALSE NEIGHBOUR: 'it returns false'. Refute it at one input. -/
def skipNilWrong : ChangeSpec := { name := "skipNil", fn := fun _ => fun
  | [] => { results := [.lit (.bool false)], args := [] }
  | _ => none }
def SkipNilWrongFalsely : Prop := skipNilRow.holds Try.pinned (OpenSpec.ofChange skipNilWrong)

/- THE SECOND FORM. 'bulk': how many values and letters a reading holds, each counted each time it is reached (what is shared counts as often as it is met; a slice's spare places count too). A statement '..UptoSaid' is the law's where the arguments, and the package variables that the reading takes, are together of bulk at most 1048576: NARROWER than '..Said'. Prove '..Said' where nothing that the law and all that it calls make is longer than what came in: it says more and counts as full. Else prove '..UptoSaid'. A law counts once. -/
mutual
def uptoBulk {H : Type} : DataW H → Nat
  | .lit (.string bytes) => bytes.length + 1
  | .lit _ => 1
  | .nil => 1
  | .ptr d => uptoBulk d + 1
  | .slice elems spare => uptoBulkAll elems + uptoBulkAll spare + 1
  | .agg parts => uptoBulkAll parts + 1
  | .iface _ d => uptoBulk d + 1
  | .map entries => uptoBulkEntries entries + 1
  | .held _ => 1
def uptoBulkAll {H : Type} : List (DataW H) → Nat
  | [] => 0
  | d :: r => uptoBulk d + uptoBulkAll r
def uptoBulkEntries {H : Type} : List (Lit × DataW H) → Nat
  | [] => 0
  | x :: r => uptoBulkEntry x + uptoBulkEntries r
def uptoBulkEntry {H : Type} : Lit × DataW H → Nat
  | (.string bytes, d) => bytes.length + uptoBulk d + 1
  | (_, d) => uptoBulk d + 1
 end
def uptoSmall : (H : Type) → List (DataW H) → Bool := fun _ ds => decide (uptoBulkAll ds ≤ 1048576)
def OpenSpec.upto (s : _root_.Go.ChangeSpec) : _root_.Go.OpenSpec := { _root_.Go.OpenSpec.ofChange s with cond := some uptoSmall }

/-- 'parleylaw22.SkipLevels', WHERE WHAT IT READS IS OF BULK AT MOST 1048576: true; the input reads as it did. -/
def skipLevelsUptoRow : OpenClaim := { program := "ytgbgodhkehnbdaa", sum := "ed87de4046ee0f08032ae0fba2775b51916fe088d3264b1a03cf890e80ed54f7", func := "parley/parleylaw22.SkipLevels", spec := "skipLevels", unfollowed := true, recurses := true, apart := false, narrowed := true }
def SkipLevelsUptoSaid : Prop := skipLevelsUptoRow.holds Try.pinned (OpenSpec.upto skipLevelsSpec)

/-- 'parleylaw22.SkipRound', WHERE WHAT IT READS IS OF BULK AT MOST 1048576: true; the input reads as it did. -/
def skipRoundUptoRow : OpenClaim := { program := "ytgbgodhkehnbdaa", sum := "ed87de4046ee0f08032ae0fba2775b51916fe088d3264b1a03cf890e80ed54f7", func := "parley/parleylaw22.SkipRound", spec := "skipRound", unfollowed := true, recurses := true, apart := false, narrowed := true }
def SkipRoundUptoSaid : Prop := skipRoundUptoRow.holds Try.pinned (OpenSpec.upto skipRoundSpec)

/-- 'parleylaw22.SkipMeans', WHERE WHAT IT READS IS OF BULK AT MOST 1048576: true; the input reads as it did. -/
def skipMeansUptoRow : OpenClaim := { program := "ytgbgodhkehnbdaa", sum := "ed87de4046ee0f08032ae0fba2775b51916fe088d3264b1a03cf890e80ed54f7", func := "parley/parleylaw22.SkipMeans", spec := "skipMeans", unfollowed := true, recurses := true, apart := false, narrowed := true }
def SkipMeansUptoSaid : Prop := skipMeansUptoRow.holds Try.pinned (OpenSpec.upto skipMeansSpec)

/-- 'parleylaw22.SkipNil', WHERE WHAT IT READS IS OF BULK AT MOST 1048576: true; the input reads as it did. -/
def skipNilUptoRow : OpenClaim := { program := "ytgbgodhkehnbdaa", sum := "ed87de4046ee0f08032ae0fba2775b51916fe088d3264b1a03cf890e80ed54f7", func := "parley/parleylaw22.SkipNil", spec := "skipNil", unfollowed := true, recurses := true, apart := false, narrowed := true }
def SkipNilUptoSaid : Prop := skipNilUptoRow.holds Try.pinned (OpenSpec.upto skipNilSpec)

end Rows
end Go.Proofs.Ytgbgodhkehnbdaa
