/-
  No cell of these rows narrows 'for every input' (looked for: loops, veiled, ifaces, maps, wideKeys, modest, calm, conditions, laid).
  DERIVED. THE GIVEN ROWS OF THIS SEAT. 9 by the template 'for every input the law returns true; each argument reads behind the call as it read before'; 0 by the template 'total and deterministic' (their statements: YtconppelbjjkjaaTotals.lean).
  GIVEN WITH THE SEED: the statements are not yours to turn. If you find one false, say at which input.
  Laid BY PROGRAM, IN A SANDBOX (cutbox-rows.mjs): the forced cells as the released guide's own fill.sh prints them over the translation f28ccc533a952efc… (all of the seat's roots in one cut). By AI agents, Wed Nov 11 2026. No macro, syntax, notation, axiom, sorry.
-/
import Derived.Test.YtconppelbjjkjaaChecked
import GoSem.Claim
import GoSem.ClaimJoined
import GoSem.ClaimMapViews
import Derived.JoinedTies
import Derived.KernelRfl
namespace Go.Proofs.Ytconppelbjjkjaa
/- THE CELL 'sum', in the pinned program and in every row, IS THE sha256 OF THE DUMP (.gsa) THAT YtconppelbjjkjaaProg.lean LOADS. Nothing in Lean hashes anything: it is a label: what it is worth is what the hold of that sum in a sandbox is worth. -/
noncomputable def Try.pinned : Pinned := { name := "ytconppelbjjkjaa", sum := "f28ccc533a952efc855c66262041473ad9d7d7ad97fb9ccd0767fe75c05f0436", checked := Try.checked }
namespace Rows
def none {H : Type} : Left H := { results := [], args := [] }

/-- 'parleylaw03.WordReal': WHATEVER THE INPUT: true; the input reads as it did. -/
def wordRealSpec : ChangeSpec := { name := "wordReal", fn := fun _ => fun
  | [d] => { results := [.lit (.bool true)], args := [d] }
  | _ => none }
def wordRealRow : OpenClaim := { program := "ytconppelbjjkjaa", sum := "f28ccc533a952efc855c66262041473ad9d7d7ad97fb9ccd0767fe75c05f0436", func := "parley/parleylaw03.WordReal", spec := "wordReal", inPlace := ["math.Float64frombits", "math.Float64bits"], apart := false }
def WordRealSaid : Prop := wordRealRow.holds Try.pinned (OpenSpec.ofChange wordRealSpec)

/-- ITS FALSE NEIGHBOUR: 'it returns false'. Refute it at one input. -/
def wordRealWrong : ChangeSpec := { name := "wordReal", fn := fun _ => fun
  | [d] => { results := [.lit (.bool false)], args := [d] }
  | _ => none }
def WordRealWrongFalsely : Prop := wordRealRow.holds Try.pinned (OpenSpec.ofChange wordRealWrong)

/-- 'parleylaw03.WordBack': WHATEVER THE INPUT: true; the input reads as it did. -/
def wordBackSpec : ChangeSpec := { name := "wordBack", fn := fun _ => fun
  | [d1, d2] => { results := [.lit (.bool true)], args := [d1, d2] }
  | _ => none }
def wordBackRow : OpenClaim := { program := "ytconppelbjjkjaa", sum := "f28ccc533a952efc855c66262041473ad9d7d7ad97fb9ccd0767fe75c05f0436", func := "parley/parleylaw03.WordBack", spec := "wordBack", inPlace := ["math.Float64frombits", "math.Float64bits"], apart := false }
def WordBackSaid : Prop := wordBackRow.holds Try.pinned (OpenSpec.ofChange wordBackSpec)

/-- ITS FALSE NEIGHBOUR: 'it returns false'. Refute it at one input. -/
def wordBackWrong : ChangeSpec := { name := "wordBack", fn := fun _ => fun
  | [d1, d2] => { results := [.lit (.bool false)], args := [d1, d2] }
  | _ => none }
def WordBackWrongFalsely : Prop := wordBackRow.holds Try.pinned (OpenSpec.ofChange wordBackWrong)

/-- 'parleylaw03.WordOrder': WHATEVER THE INPUT: true; the input reads as it did. -/
def wordOrderSpec : ChangeSpec := { name := "wordOrder", fn := fun _ => fun
  | [d1, d2, d3, d4] => { results := [.lit (.bool true)], args := [d1, d2, d3, d4] }
  | _ => none }
def wordOrderRow : OpenClaim := { program := "ytconppelbjjkjaa", sum := "f28ccc533a952efc855c66262041473ad9d7d7ad97fb9ccd0767fe75c05f0436", func := "parley/parleylaw03.WordOrder", spec := "wordOrder", inPlace := ["math.Float64frombits", "math.Float64bits"], apart := false }
def WordOrderSaid : Prop := wordOrderRow.holds Try.pinned (OpenSpec.ofChange wordOrderSpec)

/-- ITS FALSE NEIGHBOUR: 'it returns false'. Refute it at one input. -/
def wordOrderWrong : ChangeSpec := { name := "wordOrder", fn := fun _ => fun
  | [d1, d2, d3, d4] => { results := [.lit (.bool false)], args := [d1, d2, d3, d4] }
  | _ => none }
def WordOrderWrongFalsely : Prop := wordOrderRow.holds Try.pinned (OpenSpec.ofChange wordOrderWrong)

/-- 'parleylaw03.WordInts': WHATEVER THE INPUT: true; the input reads as it did. -/
def wordIntsSpec : ChangeSpec := { name := "wordInts", fn := fun _ => fun
  | [d1, d2, d3] => { results := [.lit (.bool true)], args := [d1, d2, d3] }
  | _ => none }
def wordIntsRow : OpenClaim := { program := "ytconppelbjjkjaa", sum := "f28ccc533a952efc855c66262041473ad9d7d7ad97fb9ccd0767fe75c05f0436", func := "parley/parleylaw03.WordInts", spec := "wordInts", inPlace := ["math.Float64frombits", "math.Float64bits"], apart := false }
def WordIntsSaid : Prop := wordIntsRow.holds Try.pinned (OpenSpec.ofChange wordIntsSpec)

/-- ITS FALSE NEIGHBOUR: 'it returns false'. Refute it at one input. -/
def wordIntsWrong : ChangeSpec := { name := "wordInts", fn := fun _ => fun
  | [d1, d2, d3] => { results := [.lit (.bool false)], args := [d1, d2, d3] }
  | _ => none }
def WordIntsWrongFalsely : Prop := wordIntsRow.holds Try.pinned (OpenSpec.ofChange wordIntsWrong)

/-- 'parleylaw03.WordLeast': WHATEVER THE INPUT: true; the input reads as it did. -/
def wordLeastSpec : ChangeSpec := { name := "wordLeast", fn := fun _ => fun
  | [d] => { results := [.lit (.bool true)], args := [d] }
  | _ => none }
def wordLeastRow : OpenClaim := { program := "ytconppelbjjkjaa", sum := "f28ccc533a952efc855c66262041473ad9d7d7ad97fb9ccd0767fe75c05f0436", func := "parley/parleylaw03.WordLeast", spec := "wordLeast", inPlace := ["math.Float64frombits", "math.Float64bits"], apart := false }
def WordLeastSaid : Prop := wordLeastRow.holds Try.pinned (OpenSpec.ofChange wordLeastSpec)

/-- ITS FALSE NEIGHBOUR: 'it returns false'. Refute it at one input. -/
def wordLeastWrong : ChangeSpec := { name := "wordLeast", fn := fun _ => fun
  | [d] => { results := [.lit (.bool false)], args := [d] }
  | _ => none }
def WordLeastWrongFalsely : Prop := wordLeastRow.holds Try.pinned (OpenSpec.ofChange wordLeastWrong)

/-- 'parleylaw03.WordSteps': WHATEVER THE INPUT: true; the input reads as it did. -/
def wordStepsSpec : ChangeSpec := { name := "wordSteps", fn := fun _ => fun
  | [d1, d2] => { results := [.lit (.bool true)], args := [d1, d2] }
  | _ => none }
def wordStepsRow : OpenClaim := { program := "ytconppelbjjkjaa", sum := "f28ccc533a952efc855c66262041473ad9d7d7ad97fb9ccd0767fe75c05f0436", func := "parley/parleylaw03.WordSteps", spec := "wordSteps", inPlace := ["math.Float64frombits", "math.Float64bits"], apart := false }
def WordStepsSaid : Prop := wordStepsRow.holds Try.pinned (OpenSpec.ofChange wordStepsSpec)

/-- ITS FALSE NEIGHBOUR: 'it returns false'. Refute it at one input. -/
def wordStepsWrong : ChangeSpec := { name := "wordSteps", fn := fun _ => fun
  | [d1, d2] => { results := [.lit (.bool false)], args := [d1, d2] }
  | _ => none }
def WordStepsWrongFalsely : Prop := wordStepsRow.holds Try.pinned (OpenSpec.ofChange wordStepsWrong)

/-- 'parleylaw03.WordNearest': WHATEVER THE INPUT: true; the input reads as it did. -/
def wordNearestSpec : ChangeSpec := { name := "wordNearest", fn := fun _ => fun
  | [d] => { results := [.lit (.bool true)], args := [d] }
  | _ => none }
def wordNearestRow : OpenClaim := { program := "ytconppelbjjkjaa", sum := "f28ccc533a952efc855c66262041473ad9d7d7ad97fb9ccd0767fe75c05f0436", func := "parley/parleylaw03.WordNearest", spec := "wordNearest", inPlace := ["math.archFloor", "math.Float64bits", "math.Float64frombits", "math.archTrunc"], apart := false }
def WordNearestSaid : Prop := wordNearestRow.holds Try.pinned (OpenSpec.ofChange wordNearestSpec)

/-- ITS FALSE NEIGHBOUR: 'it returns false'. Refute it at one input. -/
def wordNearestWrong : ChangeSpec := { name := "wordNearest", fn := fun _ => fun
  | [d] => { results := [.lit (.bool false)], args := [d] }
  | _ => none }
def WordNearestWrongFalsely : Prop := wordNearestRow.holds Try.pinned (OpenSpec.ofChange wordNearestWrong)

/-- 'parleylaw03.WordWhole': WHATEVER THE INPUT: true; the input reads as it did. -/
def wordWholeSpec : ChangeSpec := { name := "wordWhole", fn := fun _ => fun
  | [d] => { results := [.lit (.bool true)], args := [d] }
  | _ => none }
def wordWholeRow : OpenClaim := { program := "ytconppelbjjkjaa", sum := "f28ccc533a952efc855c66262041473ad9d7d7ad97fb9ccd0767fe75c05f0436", func := "parley/parleylaw03.WordWhole", spec := "wordWhole", inPlace := ["math.archFloor", "math.Float64bits", "math.Float64frombits", "math.archTrunc"], apart := false }
def WordWholeSaid : Prop := wordWholeRow.holds Try.pinned (OpenSpec.ofChange wordWholeSpec)

/-- ITS FALSE NEIGHBOUR: 'it returns false'. Refute it at one input. -/
def wordWholeWrong : ChangeSpec := { name := "wordWhole", fn := fun _ => fun
  | [d] => { results := [.lit (.bool false)], args := [d] }
  | _ => none }
def WordWholeWrongFalsely : Prop := wordWholeRow.holds Try.pinned (OpenSpec.ofChange wordWholeWrong)

/-- 'parleylaw03.WordReals': WHATEVER THE INPUT: true; the input reads as it did. -/
def wordRealsSpec : ChangeSpec := { name := "wordReals", fn := fun _ => fun
  | [d1, d2] => { results := [.lit (.bool true)], args := [d1, d2] }
  | _ => none }
def wordRealsRow : OpenClaim := { program := "ytconppelbjjkjaa", sum := "f28ccc533a952efc855c66262041473ad9d7d7ad97fb9ccd0767fe75c05f0436", func := "parley/parleylaw03.WordReals", spec := "wordReals", inPlace := ["math.Float64frombits", "math.archFloor", "math.Float64bits", "math.archTrunc"], apart := false }
def WordRealsSaid : Prop := wordRealsRow.holds Try.pinned (OpenSpec.ofChange wordRealsSpec)

/-- ITS FALSE NEIGHBOUR: 'it returns false'. Refute it at one input. -/
def wordRealsWrong : ChangeSpec := { name := "wordReals", fn := fun _ => fun
  | [d1, d2] => { results := [.lit (.bool false)], args := [d1, d2] }
  | _ => none }
def WordRealsWrongFalsely : Prop := wordRealsRow.holds Try.pinned (OpenSpec.ofChange wordRealsWrong)

/- THE SECOND FORM. 'bulk': how many values and letters a reading holds, each counted each time it is reached (what is shared counts as often as it is met; a slice's spare places count too). A statement '..UptoSaid' is the law's where the arguments, and the package variables that the reading takes, are together of bulk at most 1048576: NARROWER than '..Said'. Prove '..Said' where nothing that the law and all that it calls make is longer than what came in: it says more and counts as full. Else prove '..UptoSaid'. A law counts once. -/
mutual
def uptoBulk {H : Type} : DataW H → Nat
  | .lit (.string bytes) => bytes.length + 1
  | .lit _ => 1
  | .nil => 1
  | .ptr d => uptoBulk d + 1
  | .slice elems spare => uptoBulkAll elems + uptoBulkAll spare + 1
  | .agg parts => uptoBulkAll parts + 1
  | .iface _ d => uptoBulk d + 1
  | .map entries => uptoBulkEntries entries + 1
  | .held _ => 1
def uptoBulkAll {H : Type} : List (DataW H) → Nat
  | [] => 0
  | d :: r => uptoBulk d + uptoBulkAll r
def uptoBulkEntries {H : Type} : List (Lit × DataW H) → Nat
  | [] => 0
  | x :: r => uptoBulkEntry x + uptoBulkEntries r
def uptoBulkEntry {H : Type} : Lit × DataW H → Nat
  | (.string bytes, d) => bytes.length + uptoBulk d + 1
  | (_, d) => uptoBulk d + 1
 end
def uptoSmall : (H : Type) → List (DataW H) → Bool := fun _ ds => decide (uptoBulkAll ds ≤ 1048576)
def OpenSpec.upto (s : _root_.Go.ChangeSpec) : _root_.Go.OpenSpec := { _root_.Go.OpenSpec.ofChange s with cond := some uptoSmall }

/-- 'parleylaw03.WordReal', WHERE WHAT IT READS IS OF BULK AT MOST 1048576: true; the input reads as it did. -/
def wordRealUptoRow : OpenClaim := { program := "ytconppelbjjkjaa", sum := "f28ccc533a952efc855c66262041473ad9d7d7ad97fb9ccd0767fe75c05f0436", func := "parley/parleylaw03.WordReal", spec := "wordReal", inPlace := ["math.Float64frombits", "math.Float64bits"], apart := false, narrowed := true }
def WordRealUptoSaid : Prop := wordRealUptoRow.holds Try.pinned (OpenSpec.upto wordRealSpec)

/-- 'parleylaw03.WordBack', WHERE WHAT IT READS IS OF BULK AT MOST 1048576: true; the input reads as it did. -/
def wordBackUptoRow : OpenClaim := { program := "ytconppelbjjkjaa", sum := "f28ccc533a952efc855c66262041473ad9d7d7ad97fb9ccd0767fe75c05f0436", func := "parley/parleylaw03.WordBack", spec := "wordBack", inPlace := ["math.Float64frombits", "math.Float64bits"], apart := false, narrowed := true }
def WordBackUptoSaid : Prop := wordBackUptoRow.holds Try.pinned (OpenSpec.upto wordBackSpec)

/-- 'parleylaw03.WordOrder', WHERE WHAT IT READS IS OF BULK AT MOST 1048576: true; the input reads as it did. -/
def wordOrderUptoRow : OpenClaim := { program := "ytconppelbjjkjaa", sum := "f28ccc533a952efc855c66262041473ad9d7d7ad97fb9ccd0767fe75c05f0436", func := "parley/parleylaw03.WordOrder", spec := "wordOrder", inPlace := ["math.Float64frombits", "math.Float64bits"], apart := false, narrowed := true }
def WordOrderUptoSaid : Prop := wordOrderUptoRow.holds Try.pinned (OpenSpec.upto wordOrderSpec)

/-- 'parleylaw03.WordInts', WHERE WHAT IT READS IS OF BULK AT MOST 1048576: true; the input reads as it did. -/
def wordIntsUptoRow : OpenClaim := { program := "ytconppelbjjkjaa", sum := "f28ccc533a952efc855c66262041473ad9d7d7ad97fb9ccd0767fe75c05f0436", func := "parley/parleylaw03.WordInts", spec := "wordInts", inPlace := ["math.Float64frombits", "math.Float64bits"], apart := false, narrowed := true }
def WordIntsUptoSaid : Prop := wordIntsUptoRow.holds Try.pinned (OpenSpec.upto wordIntsSpec)

/-- 'parleylaw03.WordLeast', WHERE WHAT IT READS IS OF BULK AT MOST 1048576: true; the input reads as it did. -/
def wordLeastUptoRow : OpenClaim := { program := "ytconppelbjjkjaa", sum := "f28ccc533a952efc855c66262041473ad9d7d7ad97fb9ccd0767fe75c05f0436", func := "parley/parleylaw03.WordLeast", spec := "wordLeast", inPlace := ["math.Float64frombits", "math.Float64bits"], apart := false, narrowed := true }
def WordLeastUptoSaid : Prop := wordLeastUptoRow.holds Try.pinned (OpenSpec.upto wordLeastSpec)

/-- 'parleylaw03.WordSteps', WHERE WHAT IT READS IS OF BULK AT MOST 1048576: true; the input reads as it did. -/
def wordStepsUptoRow : OpenClaim := { program := "ytconppelbjjkjaa", sum := "f28ccc533a952efc855c66262041473ad9d7d7ad97fb9ccd0767fe75c05f0436", func := "parley/parleylaw03.WordSteps", spec := "wordSteps", inPlace := ["math.Float64frombits", "math.Float64bits"], apart := false, narrowed := true }
def WordStepsUptoSaid : Prop := wordStepsUptoRow.holds Try.pinned (OpenSpec.upto wordStepsSpec)

/-- 'parleylaw03.WordNearest', WHERE WHAT IT READS IS OF BULK AT MOST 1048576: true; the input reads as it did. -/
def wordNearestUptoRow : OpenClaim := { program := "ytconppelbjjkjaa", sum := "f28ccc533a952efc855c66262041473ad9d7d7ad97fb9ccd0767fe75c05f0436", func := "parley/parleylaw03.WordNearest", spec := "wordNearest", inPlace := ["math.archFloor", "math.Float64bits", "math.Float64frombits", "math.archTrunc"], apart := false, narrowed := true }
def WordNearestUptoSaid : Prop := wordNearestUptoRow.holds Try.pinned (OpenSpec.upto wordNearestSpec)

/-- 'parleylaw03.WordWhole', WHERE WHAT IT READS IS OF BULK AT MOST 1048576: true; the input reads as it did. -/
def wordWholeUptoRow : OpenClaim := { program := "ytconppelbjjkjaa", sum := "f28ccc533a952efc855c66262041473ad9d7d7ad97fb9ccd0767fe75c05f0436", func := "parley/parleylaw03.WordWhole", spec := "wordWhole", inPlace := ["math.archFloor", "math.Float64bits", "math.Float64frombits", "math.archTrunc"], apart := false, narrowed := true }
def WordWholeUptoSaid : Prop := wordWholeUptoRow.holds Try.pinned (OpenSpec.upto wordWholeSpec)

/-- 'parleylaw03.WordReals', WHERE WHAT IT READS IS OF BULK AT MOST 1048576: true; the input reads as it did. -/
def wordRealsUptoRow : OpenClaim := { program := "ytconppelbjjkjaa", sum := "f28ccc533a952efc855c66262041473ad9d7d7ad97fb9ccd0767fe75c05f0436", func := "parley/parleylaw03.WordReals", spec := "wordReals", inPlace := ["math.Float64frombits", "math.archFloor", "math.Float64bits", "math.archTrunc"], apart := false, narrowed := true }
def WordRealsUptoSaid : Prop := wordRealsUptoRow.holds Try.pinned (OpenSpec.upto wordRealsSpec)

end Rows
end Go.Proofs.Ytconppelbjjkjaa
