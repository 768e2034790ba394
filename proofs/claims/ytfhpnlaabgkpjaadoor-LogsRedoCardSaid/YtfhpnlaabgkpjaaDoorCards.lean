/-
  DERIVED. GIVEN WITH THE SEED: THE CARDS: each row of YtfhpnlaabgkpjaaDoorRows.lean that lists a variable, with what it lists TIED to the program's text (the seventh form; the later family's looks); each row that meets fmt, with fmt's text TOLD by the authors' own Lean function (tested against real Go, not proved from fmt's source: count such statements apart). THE CARD IS WHAT COUNTS. Prove the row's statement (the work); the ties are given (YtfhpnlaabgkpjaaDoorTie.lean); close each card by the builder's one call (the guide's Derived/Test/ToyasCard.lean, 'card_holds'). Laid BY PROGRAM, IN A SANDBOX (cutbox-door.mjs). By AI agents, Wed Nov 11 2026. No macro, syntax, notation, axiom, sorry.
-/
import Derived.Test.YtfhpnlaabgkpjaaDoorRows
import GoSem.ClaimSeven
namespace Go.Proofs.YtfhpnlaabgkpjaaDoor
namespace Rows

/-- THE TIED CARD OF 'parleylaw05.LogsReads'. -/
def logsReadsCard : Claim7 := { stood := { row := logsReadsRow, standIns := [], harness := (true, "bc4b6811aa8ffdcdc59ed67d64d881383170020b771c38a6480faf70c09e0e9c"), looks := false }, kinds := [], alts := [], laidByText := true, laidKinds := [.data, .data], laidTests := true, laidLooks := .later }
def LogsReadsCardSaid : Prop := Claim7.holds Tryd.pinned (.plain (OpenSpec.ofChange logsReadsSpec)) logsReadsCard

/-- THE TIED CARD OF 'parleylaw05.LogsBack'. -/
def logsBackCard : Claim7 := { stood := { row := logsBackRow, standIns := [], harness := (true, "bc4b6811aa8ffdcdc59ed67d64d881383170020b771c38a6480faf70c09e0e9c"), looks := false }, kinds := [], alts := [], laidByText := true, laidKinds := [.data, .data], laidTests := true, laidLooks := .later }
def LogsBackCardSaid : Prop := Claim7.holds Tryd.pinned (.plain (OpenSpec.ofChange logsBackSpec)) logsBackCard

/-- THE TIED CARD OF 'parleylaw05.LogsRedo'. -/
def logsRedoCard : Claim7 := { stood := { row := logsRedoRow, standIns := [], harness := (true, "bc4b6811aa8ffdcdc59ed67d64d881383170020b771c38a6480faf70c09e0e9c"), looks := false }, kinds := [], alts := [], laidByText := true, laidKinds := [.data, .data], laidTests := true, laidLooks := .later }
def LogsRedoCardSaid : Prop := Claim7.holds Tryd.pinned (.plain (OpenSpec.ofChange logsRedoSpec)) logsRedoCard

/-- THE SECOND FORM's CARD OF 'parleylaw05.LogsReads'. -/
def logsReadsUptoCard : Claim7 := { stood := { row := logsReadsUptoRow, standIns := [], harness := (true, "bc4b6811aa8ffdcdc59ed67d64d881383170020b771c38a6480faf70c09e0e9c"), looks := false }, kinds := [], alts := [], laidByText := true, laidKinds := [.data, .data], laidTests := true, laidLooks := .later }
def LogsReadsUptoCardSaid : Prop := Claim7.holds Tryd.pinned (.plain (OpenSpec.upto logsReadsSpec)) logsReadsUptoCard

/-- THE SECOND FORM's CARD OF 'parleylaw05.LogsBack'. -/
def logsBackUptoCard : Claim7 := { stood := { row := logsBackUptoRow, standIns := [], harness := (true, "bc4b6811aa8ffdcdc59ed67d64d881383170020b771c38a6480faf70c09e0e9c"), looks := false }, kinds := [], alts := [], laidByText := true, laidKinds := [.data, .data], laidTests := true, laidLooks := .later }
def LogsBackUptoCardSaid : Prop := Claim7.holds Tryd.pinned (.plain (OpenSpec.upto logsBackSpec)) logsBackUptoCard

/-- THE SECOND FORM's CARD OF 'parleylaw05.LogsRedo'. -/
def logsRedoUptoCard : Claim7 := { stood := { row := logsRedoUptoRow, standIns := [], harness := (true, "bc4b6811aa8ffdcdc59ed67d64d881383170020b771c38a6480faf70c09e0e9c"), looks := false }, kinds := [], alts := [], laidByText := true, laidKinds := [.data, .data], laidTests := true, laidLooks := .later }
def LogsRedoUptoCardSaid : Prop := Claim7.holds Tryd.pinned (.plain (OpenSpec.upto logsRedoSpec)) logsRedoUptoCard
end Rows
end Go.Proofs.YtfhpnlaabgkpjaaDoor
