/-
  DERIVED. GIVEN WITH THE SEED: THE CARDS: each row of YtkjeobcfaolcaaaDoorRows.lean that lists a variable, with what it lists TIED to the program's text (the seventh form; the later family's looks); each row that meets fmt, with fmt's text TOLD by the authors' own Lean function (tested against real Go, not proved from fmt's source: count such statements apart). THE CARD IS WHAT COUNTS. Prove the row's statement (the work); the ties are given (YtkjeobcfaolcaaaDoorTie.lean); close each card by the builder's one call (the guide's Derived/Test/ToyasCard.lean, 'card_holds'). Laid BY PROGRAM, IN A SANDBOX (cutbox-door.mjs). By AI agents, Wed Nov 11 2026. No macro, syntax, notation, axiom, sorry.
-/
import Derived.Test.YtkjeobcfaolcaaaDoorRows
import GoSem.ClaimSeven
namespace Go.Proofs.YtkjeobcfaolcaaaDoor
namespace Rows

/-- THE TIED CARD OF 'parleylaw04.IndexHomes'. -/
def indexHomesCard : Claim7 := { stood := { row := indexHomesRow, standIns := [], harness := (true, "20704c7efa8f215e5aac574dba7659647b12b69baf37cacb7ad79d5b0cb8609a"), looks := false }, kinds := [], alts := [], laidByText := true, laidKinds := [.data, .data], laidTests := true, laidLooks := .later }
def IndexHomesCardSaid : Prop := Claim7.holds Tryd.pinned (.plain (OpenSpec.ofChange indexHomesSpec)) indexHomesCard

/-- THE TIED CARD OF 'parleylaw04.IndexMeans'. -/
def indexMeansCard : Claim7 := { stood := { row := indexMeansRow, standIns := [], harness := (true, "20704c7efa8f215e5aac574dba7659647b12b69baf37cacb7ad79d5b0cb8609a"), looks := false }, kinds := [], alts := [], laidByText := true, laidKinds := [.data, .data], laidTests := true, laidLooks := .later }
def IndexMeansCardSaid : Prop := Claim7.holds Tryd.pinned (.plain (OpenSpec.ofChange indexMeansSpec)) indexMeansCard

/-- THE TIED CARD OF 'parleylaw04.IndexPlays'. -/
def indexPlaysCard : Claim7 := { stood := { row := indexPlaysRow, standIns := [], harness := (true, "20704c7efa8f215e5aac574dba7659647b12b69baf37cacb7ad79d5b0cb8609a"), looks := false }, kinds := [], alts := [], laidByText := true, laidKinds := [.data, .data], laidTests := true, laidLooks := .later }
def IndexPlaysCardSaid : Prop := Claim7.holds Tryd.pinned (.plain (OpenSpec.ofChange indexPlaysSpec)) indexPlaysCard

/-- THE TIED CARD OF 'parleylaw04.IndexMany'. -/
def indexManyCard : Claim7 := { stood := { row := indexManyRow, standIns := [], harness := (true, "20704c7efa8f215e5aac574dba7659647b12b69baf37cacb7ad79d5b0cb8609a"), looks := false }, kinds := [], alts := [], laidByText := true, laidKinds := [.data, .data], laidTests := true, laidLooks := .later }
def IndexManyCardSaid : Prop := Claim7.holds Tryd.pinned (.plain (OpenSpec.ofChange indexManySpec)) indexManyCard

/-- THE TIED CARD OF 'parleylaw04.IndexMeanwhile'. -/
def indexMeanwhileCard : Claim7 := { stood := { row := indexMeanwhileRow, standIns := [], harness := (true, "20704c7efa8f215e5aac574dba7659647b12b69baf37cacb7ad79d5b0cb8609a"), looks := false }, kinds := [], alts := [], laidByText := true, laidKinds := [.data, .data], laidTests := true, laidLooks := .later }
def IndexMeanwhileCardSaid : Prop := Claim7.holds Tryd.pinned (.plain (OpenSpec.ofChange indexMeanwhileSpec)) indexMeanwhileCard

/-- THE TIED CARD OF 'parleylaw04.IndexNil'. -/
def indexNilCard : Claim7 := { stood := { row := indexNilRow, standIns := [], harness := (true, "20704c7efa8f215e5aac574dba7659647b12b69baf37cacb7ad79d5b0cb8609a"), looks := false }, kinds := [], alts := [], laidByText := true, laidKinds := [.data, .data], laidTests := true, laidLooks := .later }
def IndexNilCardSaid : Prop := Claim7.holds Tryd.pinned (.plain (OpenSpec.ofChange indexNilSpec)) indexNilCard

/-- THE SECOND FORM's CARD OF 'parleylaw04.IndexHomes'. -/
def indexHomesUptoCard : Claim7 := { stood := { row := indexHomesUptoRow, standIns := [], harness := (true, "20704c7efa8f215e5aac574dba7659647b12b69baf37cacb7ad79d5b0cb8609a"), looks := false }, kinds := [], alts := [], laidByText := true, laidKinds := [.data, .data], laidTests := true, laidLooks := .later }
def IndexHomesUptoCardSaid : Prop := Claim7.holds Tryd.pinned (.plain (OpenSpec.upto indexHomesSpec)) indexHomesUptoCard

/-- THE SECOND FORM's CARD OF 'parleylaw04.IndexMeans'. -/
def indexMeansUptoCard : Claim7 := { stood := { row := indexMeansUptoRow, standIns := [], harness := (true, "20704c7efa8f215e5aac574dba7659647b12b69baf37cacb7ad79d5b0cb8609a"), looks := false }, kinds := [], alts := [], laidByText := true, laidKinds := [.data, .data], laidTests := true, laidLooks := .later }
def IndexMeansUptoCardSaid : Prop := Claim7.holds Tryd.pinned (.plain (OpenSpec.upto indexMeansSpec)) indexMeansUptoCard

/-- THE SECOND FORM's CARD OF 'parleylaw04.IndexPlays'. -/
def indexPlaysUptoCard : Claim7 := { stood := { row := indexPlaysUptoRow, standIns := [], harness := (true, "20704c7efa8f215e5aac574dba7659647b12b69baf37cacb7ad79d5b0cb8609a"), looks := false }, kinds := [], alts := [], laidByText := true, laidKinds := [.data, .data], laidTests := true, laidLooks := .later }
def IndexPlaysUptoCardSaid : Prop := Claim7.holds Tryd.pinned (.plain (OpenSpec.upto indexPlaysSpec)) indexPlaysUptoCard

/-- THE SECOND FORM's CARD OF 'parleylaw04.IndexMany'. -/
def indexManyUptoCard : Claim7 := { stood := { row := indexManyUptoRow, standIns := [], harness := (true, "20704c7efa8f215e5aac574dba7659647b12b69baf37cacb7ad79d5b0cb8609a"), looks := false }, kinds := [], alts := [], laidByText := true, laidKinds := [.data, .data], laidTests := true, laidLooks := .later }
def IndexManyUptoCardSaid : Prop := Claim7.holds Tryd.pinned (.plain (OpenSpec.upto indexManySpec)) indexManyUptoCard

/-- THE SECOND FORM's CARD OF 'parleylaw04.IndexMeanwhile'. -/
def indexMeanwhileUptoCard : Claim7 := { stood := { row := indexMeanwhileUptoRow, standIns := [], harness := (true, "20704c7efa8f215e5aac574dba7659647b12b69baf37cacb7ad79d5b0cb8609a"), looks := false }, kinds := [], alts := [], laidByText := true, laidKinds := [.data, .data], laidTests := true, laidLooks := .later }
def IndexMeanwhileUptoCardSaid : Prop := Claim7.holds Tryd.pinned (.plain (OpenSpec.upto indexMeanwhileSpec)) indexMeanwhileUptoCard

/-- THE SECOND FORM's CARD OF 'parleylaw04.IndexNil'. -/
def indexNilUptoCard : Claim7 := { stood := { row := indexNilUptoRow, standIns := [], harness := (true, "20704c7efa8f215e5aac574dba7659647b12b69baf37cacb7ad79d5b0cb8609a"), looks := false }, kinds := [], alts := [], laidByText := true, laidKinds := [.data, .data], laidTests := true, laidLooks := .later }
def IndexNilUptoCardSaid : Prop := Claim7.holds Tryd.pinned (.plain (OpenSpec.upto indexNilSpec)) indexNilUptoCard
end Rows
end Go.Proofs.YtkjeobcfaolcaaaDoor
