/-
  No cell of these rows narrows 'for every input' (looked for: loops, veiled, ifaces, maps, wideKeys, modest, calm, conditions, laid).
  DERIVED. THE GIVEN ROWS OF THIS SEAT. 4 by the template 'for every input the law returns true; each argument reads behind the call as it read before'; 0 by the template 'total and deterministic' (their statements: YteoebfjhadmnbaaTotals.lean).
  GIVEN WITH THE SEED: the statements are not yours to turn. If you find one false, say at which input.
  Laid BY PROGRAM, IN A SANDBOX (cutbox-rows.mjs): the forced cells as the released guide's own fill.sh prints them over the translation 1ce6d70ee119235e… (all of the seat's roots in one cut). By AI agents, Wed Nov 11 2026. No macro, syntax, notation, axiom, sorry.
-/
import Derived.Test.YteoebfjhadmnbaaChecked
import GoSem.Claim
import GoSem.ClaimJoined
import GoSem.ClaimMapViews
import Derived.JoinedTies
import Derived.KernelRfl
namespace Go.Proofs.Yteoebfjhadmnbaa
/- THE CELL 'sum', in the pinned program and in every row, IS THE sha256 OF THE DUMP (.gsa) THAT YteoebfjhadmnbaaProg.lean LOADS. Nothing in Lean hashes anything: it is a label: what it is worth is what the hold of that sum in a sandbox is worth. -/
noncomputable def Try.pinned : Pinned := { name := "yteoebfjhadmnbaa", sum := "1ce6d70ee119235e4ea4341ae731ff97adbad8a4e99fb5d9276c5743759bed97", checked := Try.checked }
namespace Rows
def none {H : Type} : Left H := { results := [], args := [] }

/-- 'parleylaw31.StatsHistory': WHATEVER THE INPUT: true; the input reads as it did. -/
def statsHistorySpec : ChangeSpec := { name := "statsHistory", fn := fun _ => fun
  | [d] => { results := [.lit (.bool true)], args := [d] }
  | _ => none }
def statsHistoryRow : OpenClaim := { program := "yteoebfjhadmnbaa", sum := "1ce6d70ee119235e4ea4341ae731ff97adbad8a4e99fb5d9276c5743759bed97", func := "parley/parleylaw31.StatsHistory", spec := "statsHistory", inPlace := ["math.Float64bits", "math.Float64frombits", "math.archFloor", "math.archTrunc"], unfollowed := true, recurses := true, apart := false }
def StatsHistorySaid : Prop := statsHistoryRow.holds Try.pinned (OpenSpec.ofChange statsHistorySpec)

/-- ITS FALSE NEIGHBOUR: 'it returns false'. Refute it at one input. -/
def statsHistoryWrong : ChangeSpec := { name := "statsHistory", fn := fun _ => fun
  | [d] => { results := [.lit (.bool false)], args := [d] }
  | _ => none }
def StatsHistoryWrongFalsely : Prop := statsHistoryRow.holds Try.pinned (OpenSpec.ofChange statsHistoryWrong)

/-- 'parleylaw31.StatsCounts': WHATEVER THE INPUT: true; the input reads as it did. -/
def statsCountsSpec : ChangeSpec := { name := "statsCounts", fn := fun _ => fun
  | [d] => { results := [.lit (.bool true)], args := [d] }
  | _ => none }
def statsCountsRow : OpenClaim := { program := "yteoebfjhadmnbaa", sum := "1ce6d70ee119235e4ea4341ae731ff97adbad8a4e99fb5d9276c5743759bed97", func := "parley/parleylaw31.StatsCounts", spec := "statsCounts", inPlace := ["math.Float64bits", "math.Float64frombits", "math.archFloor", "math.archTrunc"], unfollowed := true, recurses := true, apart := false }
def StatsCountsSaid : Prop := statsCountsRow.holds Try.pinned (OpenSpec.ofChange statsCountsSpec)

/-- ITS FALSE NEIGHBOUR: 'it returns false'. Refute it at one input. -/
def statsCountsWrong : ChangeSpec := { name := "statsCounts", fn := fun _ => fun
  | [d] => { results := [.lit (.bool false)], args := [d] }
  | _ => none }
def StatsCountsWrongFalsely : Prop := statsCountsRow.holds Try.pinned (OpenSpec.ofChange statsCountsWrong)

/-- 'parleylaw31.StatsFits': WHATEVER THE INPUT: true; the input reads as it did. -/
def statsFitsSpec : ChangeSpec := { name := "statsFits", fn := fun _ => fun
  | [d1, d2] => { results := [.lit (.bool true)], args := [d1, d2] }
  | _ => none }
def statsFitsRow : OpenClaim := { program := "yteoebfjhadmnbaa", sum := "1ce6d70ee119235e4ea4341ae731ff97adbad8a4e99fb5d9276c5743759bed97", func := "parley/parleylaw31.StatsFits", spec := "statsFits", inPlace := ["math.Float64bits", "math.Float64frombits", "math.archFloor", "math.archTrunc"], unfollowed := true, recurses := true, apart := false }
def StatsFitsSaid : Prop := statsFitsRow.holds Try.pinned (OpenSpec.ofChange statsFitsSpec)

/-- ITS FALSE NEIGHBOUR: 'it returns false'. Refute it at one input. -/
def statsFitsWrong : ChangeSpec := { name := "statsFits", fn := fun _ => fun
  | [d1, d2] => { results := [.lit (.bool false)], args := [d1, d2] }
  | _ => none }
def StatsFitsWrongFalsely : Prop := statsFitsRow.holds Try.pinned (OpenSpec.ofChange statsFitsWrong)

/-- 'parleylaw31.StatsWhole': WHATEVER THE INPUT: true; the input reads as it did. -/
def statsWholeSpec : ChangeSpec := { name := "statsWhole", fn := fun _ => fun
  | [d] => { results := [.lit (.bool true)], args := [d] }
  | _ => none }
def statsWholeRow : OpenClaim := { program := "yteoebfjhadmnbaa", sum := "1ce6d70ee119235e4ea4341ae731ff97adbad8a4e99fb5d9276c5743759bed97", func := "parley/parleylaw31.StatsWhole", spec := "statsWhole", inPlace := ["math.Float64bits", "math.Float64frombits", "math.archFloor", "math.archTrunc", "math.sqrt"], unfollowed := true, recurses := true, apart := false }
def StatsWholeSaid : Prop := statsWholeRow.holds Try.pinned (OpenSpec.ofChange statsWholeSpec)

/-- ITS FALSE NEIGHBOUR: 'it returns false'. Refute it at one input. -/
def statsWholeWrong : ChangeSpec := { name := "statsWhole", fn := fun _ => fun
  | [d] => { results := [.lit (.bool false)], args := [d] }
  | _ => none }
def StatsWholeWrongFalsely : Prop := statsWholeRow.holds Try.pinned (OpenSpec.ofChange statsWholeWrong)

/- THE SECOND FORM. 'bulk': how many values and letters a reading holds, each counted each time it is reached (what is shared counts as often as it is met; a slice's spare places count too). A statement '..UptoSaid' is the law's where the arguments, and the package variables that the reading takes, are together of bulk at most 1048576: NARROWER than '..Said'. Prove '..Said' where nothing that the law and all that it calls make is longer than what came in: it says more and counts as full. Else prove '..UptoSaid'. A law counts once. -/
mutual
def uptoBulk {H : Type} : DataW H → Nat
  | .lit (.string bytes) => bytes.length + 1
  | .lit _ => 1
  | .nil => 1
  | .ptr d => uptoBulk d + 1
  | .slice elems spare => uptoBulkAll elems + uptoBulkAll spare + 1
  | .agg parts => uptoBulkAll parts + 1
  | .iface _ d => uptoBulk d + 1
  | .map entries => uptoBulkEntries entries + 1
  | .held _ => 1
def uptoBulkAll {H : Type} : List (DataW H) → Nat
  | [] => 0
  | d :: r => uptoBulk d + uptoBulkAll r
def uptoBulkEntries {H : Type} : List (Lit × DataW H) → Nat
  | [] => 0
  | x :: r => uptoBulkEntry x + uptoBulkEntries r
def uptoBulkEntry {H : Type} : Lit × DataW H → Nat
  | (.string bytes, d) => bytes.length + uptoBulk d + 1
  | (_, d) => uptoBulk d + 1
 end
def uptoSmall : (H : Type) → List (DataW H) → Bool := fun _ ds => decide (uptoBulkAll ds ≤ 1048576)
def OpenSpec.upto (s : _root_.Go.ChangeSpec) : _root_.Go.OpenSpec := { _root_.Go.OpenSpec.ofChange s with cond := some uptoSmall }

/-- 'parleylaw31.StatsHistory', WHERE WHAT IT READS IS OF BULK AT MOST 1048576: true; the input reads as it did. -/
def statsHistoryUptoRow : OpenClaim := { program := "yteoebfjhadmnbaa", sum := "1ce6d70ee119235e4ea4341ae731ff97adbad8a4e99fb5d9276c5743759bed97", func := "parley/parleylaw31.StatsHistory", spec := "statsHistory", inPlace := ["math.Float64bits", "math.Float64frombits", "math.archFloor", "math.archTrunc"], unfollowed := true, recurses := true, apart := false, narrowed := true }
def StatsHistoryUptoSaid : Prop := statsHistoryUptoRow.holds Try.pinned (OpenSpec.upto statsHistorySpec)

/-- 'parleylaw31.StatsCounts', WHERE WHAT IT READS IS OF BULK AT MOST 1048576: true; the input reads as it did. -/
def statsCountsUptoRow : OpenClaim := { program := "yteoebfjhadmnbaa", sum := "1ce6d70ee119235e4ea4341ae731ff97adbad8a4e99fb5d9276c5743759bed97", func := "parley/parleylaw31.StatsCounts", spec := "statsCounts", inPlace := ["math.Float64bits", "math.Float64frombits", "math.archFloor", "math.archTrunc"], unfollowed := true, recurses := true, apart := false, narrowed := true }
def StatsCountsUptoSaid : Prop := statsCountsUptoRow.holds Try.pinned (OpenSpec.upto statsCountsSpec)

/-- 'parleylaw31.StatsFits', WHERE WHAT IT READS IS OF BULK AT MOST 1048576: true; the input reads as it did. -/
def statsFitsUptoRow : OpenClaim := { program := "yteoebfjhadmnbaa", sum := "1ce6d70ee119235e4ea4341ae731ff97adbad8a4e99fb5d9276c5743759bed97", func := "parley/parleylaw31.StatsFits", spec := "statsFits", inPlace := ["math.Float64bits", "math.Float64frombits", "math.archFloor", "math.archTrunc"], unfollowed := true, recurses := true, apart := false, narrowed := true }
def StatsFitsUptoSaid : Prop := statsFitsUptoRow.holds Try.pinned (OpenSpec.upto statsFitsSpec)

/-- 'parleylaw31.StatsWhole', WHERE WHAT IT READS IS OF BULK AT MOST 1048576: true; the input reads as it did. -/
def statsWholeUptoRow : OpenClaim := { program := "yteoebfjhadmnbaa", sum := "1ce6d70ee119235e4ea4341ae731ff97adbad8a4e99fb5d9276c5743759bed97", func := "parley/parleylaw31.StatsWhole", spec := "statsWhole", inPlace := ["math.Float64bits", "math.Float64frombits", "math.archFloor", "math.archTrunc", "math.sqrt"], unfollowed := true, recurses := true, apart := false, narrowed := true }
def StatsWholeUptoSaid : Prop := statsWholeUptoRow.holds Try.pinned (OpenSpec.upto statsWholeSpec)

end Rows
end Go.Proofs.Yteoebfjhadmnbaa
