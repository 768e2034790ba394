/-
  No cell of these rows narrows 'for every input' (looked for: loops, veiled, ifaces, maps, wideKeys, modest, calm, conditions, laid).
  DERIVED. THE GIVEN ROWS OF THIS SEAT. 4 by the template 'for every input the law returns true; each argument reads behind the call as it read before'; 0 by the template 'total and deterministic' (their statements: YtloiadhdkgkjkaaTotals.lean).
  GIVEN WITH THE SEED: the statements are not yours to turn. If you find one false, say at which input.
  Laid BY PROGRAM, IN A SANDBOX (cutbox-rows.mjs): the forced cells as the released guide's own fill.sh prints them over the translation ae58187a8920c12a… (all of the seat's roots in one cut). By AI agents, Wed Nov 11 2026. No macro, syntax, notation, axiom, sorry.
-/
import Derived.Test.YtloiadhdkgkjkaaChecked
import GoSem.Claim
import GoSem.ClaimJoined
import GoSem.ClaimMapViews
import Derived.JoinedTies
import Derived.KernelRfl
namespace Go.Proofs.Ytloiadhdkgkjkaa
/- THE CELL 'sum', in the pinned program and in every row, IS THE sha256 OF THE DUMP (.gsa) THAT YtloiadhdkgkjkaaProg.lean LOADS. Nothing in Lean hashes anything: it is a label: what it is worth is what the hold of that sum in a sandbox is worth. -/
noncomputable def Try.pinned : Pinned := { name := "ytloiadhdkgkjkaa", sum := "ae58187a8920c12aae6c3e4f30096b148b49488b094ec51ff1334e160a8ab9a9", checked := Try.checked }
namespace Rows
def none {H : Type} : Left H := { results := [], args := [] }

/-- 'parleylaw16.OpaqueSights': WHATEVER THE INPUT: true; the input reads as it did. -/
def opaqueSightsSpec : ChangeSpec := { name := "opaqueSights", fn := fun _ => fun
  | [d1, d2] => { results := [.lit (.bool true)], args := [d1, d2] }
  | _ => none }
def opaqueSightsRow : OpenClaim := { program := "ytloiadhdkgkjkaa", sum := "ae58187a8920c12aae6c3e4f30096b148b49488b094ec51ff1334e160a8ab9a9", func := "parley/parleylaw16.OpaqueSights", spec := "opaqueSights", unfollowed := true, recurses := true, plainKeys := false, apart := false }
def OpaqueSightsSaid : Prop := opaqueSightsRow.holds Try.pinned (OpenSpec.ofChange opaqueSightsSpec)

/-- ITS FALSE NEIGHBOUR: 'it returns false'. Refute it at one input. -/
def opaqueSightsWrong : ChangeSpec := { name := "opaqueSights", fn := fun _ => fun
  | [d1, d2] => { results := [.lit (.bool false)], args := [d1, d2] }
  | _ => none }
def OpaqueSightsWrongFalsely : Prop := opaqueSightsRow.holds Try.pinned (OpenSpec.ofChange opaqueSightsWrong)

/-- 'parleylaw16.OpaqueNames': WHATEVER THE INPUT: true; the input reads as it did. -/
def opaqueNamesSpec : ChangeSpec := { name := "opaqueNames", fn := fun _ => fun
  | [] => { results := [.lit (.bool true)], args := [] }
  | _ => none }
def opaqueNamesRow : OpenClaim := { program := "ytloiadhdkgkjkaa", sum := "ae58187a8920c12aae6c3e4f30096b148b49488b094ec51ff1334e160a8ab9a9", func := "parley/parleylaw16.OpaqueNames", spec := "opaqueNames", unfollowed := true, recurses := true, plainKeys := false, apart := false }
def OpaqueNamesSaid : Prop := opaqueNamesRow.holds Try.pinned (OpenSpec.ofChange opaqueNamesSpec)

/-- ITS FALSE NEIGHBOUR: 'it returns false'. Refute it at one input. -/
def opaqueNamesWrong : ChangeSpec := { name := "opaqueNames", fn := fun _ => fun
  | [] => { results := [.lit (.bool false)], args := [] }
  | _ => none }
def OpaqueNamesWrongFalsely : Prop := opaqueNamesRow.holds Try.pinned (OpenSpec.ofChange opaqueNamesWrong)

/-- 'parleylaw16.OpaqueCells': WHATEVER THE INPUT: true; the input reads as it did. -/
def opaqueCellsSpec : ChangeSpec := { name := "opaqueCells", fn := fun _ => fun
  | [d1, d2, d3, d4] => { results := [.lit (.bool true)], args := [d1, d2, d3, d4] }
  | _ => none }
def opaqueCellsRow : OpenClaim := { program := "ytloiadhdkgkjkaa", sum := "ae58187a8920c12aae6c3e4f30096b148b49488b094ec51ff1334e160a8ab9a9", func := "parley/parleylaw16.OpaqueCells", spec := "opaqueCells", unfollowed := true, recurses := true, plainKeys := false, apart := false }
def OpaqueCellsSaid : Prop := opaqueCellsRow.holds Try.pinned (OpenSpec.ofChange opaqueCellsSpec)

/-- ITS FALSE NEIGHBOUR: 'it returns false'. Refute it at one input. -/
def opaqueCellsWrong : ChangeSpec := { name := "opaqueCells", fn := fun _ => fun
  | [d1, d2, d3, d4] => { results := [.lit (.bool false)], args := [d1, d2, d3, d4] }
  | _ => none }
def OpaqueCellsWrongFalsely : Prop := opaqueCellsRow.holds Try.pinned (OpenSpec.ofChange opaqueCellsWrong)

/-- 'parleylaw16.OpaqueMeans': WHATEVER THE INPUT: true; the input reads as it did. -/
def opaqueMeansSpec : ChangeSpec := { name := "opaqueMeans", fn := fun _ => fun
  | [d1, d2] => { results := [.lit (.bool true)], args := [d1, d2] }
  | _ => none }
def opaqueMeansRow : OpenClaim := { program := "ytloiadhdkgkjkaa", sum := "ae58187a8920c12aae6c3e4f30096b148b49488b094ec51ff1334e160a8ab9a9", func := "parley/parleylaw16.OpaqueMeans", spec := "opaqueMeans", unfollowed := true, recurses := true, plainKeys := false, apart := false }
def OpaqueMeansSaid : Prop := opaqueMeansRow.holds Try.pinned (OpenSpec.ofChange opaqueMeansSpec)

/-- ITS FALSE NEIGHBOUR: 'it returns false'. Refute it at one input. -/
def opaqueMeansWrong : ChangeSpec := { name := "opaqueMeans", fn := fun _ => fun
  | [d1, d2] => { results := [.lit (.bool false)], args := [d1, d2] }
  | _ => none }
def OpaqueMeansWrongFalsely : Prop := opaqueMeansRow.holds Try.pinned (OpenSpec.ofChange opaqueMeansWrong)

/- THE SECOND FORM. 'bulk': how many values and letters a reading holds, each counted each time it is reached (what is shared counts as often as it is met; a slice's spare places count too). A statement '..UptoSaid' is the law's where the arguments, and the package variables that the reading takes, are together of bulk at most 1048576: NARROWER than '..Said'. Prove '..Said' where nothing that the law and all that it calls make is longer than what came in: it says more and counts as full. Else prove '..UptoSaid'. A law counts once. -/
mutual
def uptoBulk {H : Type} : DataW H → Nat
  | .lit (.string bytes) => bytes.length + 1
  | .lit _ => 1
  | .nil => 1
  | .ptr d => uptoBulk d + 1
  | .slice elems spare => uptoBulkAll elems + uptoBulkAll spare + 1
  | .agg parts => uptoBulkAll parts + 1
  | .iface _ d => uptoBulk d + 1
  | .map entries => uptoBulkEntries entries + 1
  | .held _ => 1
def uptoBulkAll {H : Type} : List (DataW H) → Nat
  | [] => 0
  | d :: r => uptoBulk d + uptoBulkAll r
def uptoBulkEntries {H : Type} : List (Lit × DataW H) → Nat
  | [] => 0
  | x :: r => uptoBulkEntry x + uptoBulkEntries r
def uptoBulkEntry {H : Type} : Lit × DataW H → Nat
  | (.string bytes, d) => bytes.length + uptoBulk d + 1
  | (_, d) => uptoBulk d + 1
 end
def uptoSmall : (H : Type) → List (DataW H) → Bool := fun _ ds => decide (uptoBulkAll ds ≤ 1048576)
def OpenSpec.upto (s : _root_.Go.ChangeSpec) : _root_.Go.OpenSpec := { _root_.Go.OpenSpec.ofChange s with cond := some uptoSmall }

/-- 'parleylaw16.OpaqueSights', WHERE WHAT IT READS IS OF BULK AT MOST 1048576: true; the input reads as it did. -/
def opaqueSightsUptoRow : OpenClaim := { program := "ytloiadhdkgkjkaa", sum := "ae58187a8920c12aae6c3e4f30096b148b49488b094ec51ff1334e160a8ab9a9", func := "parley/parleylaw16.OpaqueSights", spec := "opaqueSights", unfollowed := true, recurses := true, plainKeys := false, apart := false, narrowed := true }
def OpaqueSightsUptoSaid : Prop := opaqueSightsUptoRow.holds Try.pinned (OpenSpec.upto opaqueSightsSpec)

/-- 'parleylaw16.OpaqueNames', WHERE WHAT IT READS IS OF BULK AT MOST 1048576: true; the input reads as it did. -/
def opaqueNamesUptoRow : OpenClaim := { program := "ytloiadhdkgkjkaa", sum := "ae58187a8920c12aae6c3e4f30096b148b49488b094ec51ff1334e160a8ab9a9", func := "parley/parleylaw16.OpaqueNames", spec := "opaqueNames", unfollowed := true, recurses := true, plainKeys := false, apart := false, narrowed := true }
def OpaqueNamesUptoSaid : Prop := opaqueNamesUptoRow.holds Try.pinned (OpenSpec.upto opaqueNamesSpec)

/-- 'parleylaw16.OpaqueCells', WHERE WHAT IT READS IS OF BULK AT MOST 1048576: true; the input reads as it did. -/
def opaqueCellsUptoRow : OpenClaim := { program := "ytloiadhdkgkjkaa", sum := "ae58187a8920c12aae6c3e4f30096b148b49488b094ec51ff1334e160a8ab9a9", func := "parley/parleylaw16.OpaqueCells", spec := "opaqueCells", unfollowed := true, recurses := true, plainKeys := false, apart := false, narrowed := true }
def OpaqueCellsUptoSaid : Prop := opaqueCellsUptoRow.holds Try.pinned (OpenSpec.upto opaqueCellsSpec)

/-- 'parleylaw16.OpaqueMeans', WHERE WHAT IT READS IS OF BULK AT MOST 1048576: true; the input reads as it did. -/
def opaqueMeansUptoRow : OpenClaim := { program := "ytloiadhdkgkjkaa", sum := "ae58187a8920c12aae6c3e4f30096b148b49488b094ec51ff1334e160a8ab9a9", func := "parley/parleylaw16.OpaqueMeans", spec := "opaqueMeans", unfollowed := true, recurses := true, plainKeys := false, apart := false, narrowed := true }
def OpaqueMeansUptoSaid : Prop := opaqueMeansUptoRow.holds Try.pinned (OpenSpec.upto opaqueMeansSpec)

end Rows
end Go.Proofs.Ytloiadhdkgkjkaa
