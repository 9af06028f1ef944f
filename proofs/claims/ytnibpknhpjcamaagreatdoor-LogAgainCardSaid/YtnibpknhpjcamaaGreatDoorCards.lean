/-
  DERIVED. GIVEN WITH THE SEED: THE CARDS: each row of YtnibpknhpjcamaaGreatDoorRows.lean that lists a variable, with what it lists TIED to the program's text (the seventh form; the later family's looks); each row that meets fmt, with fmt's text TOLD by the authors' own Lean function (tested against real Go, not proved from fmt's source: count such statements apart). THE CARD IS WHAT COUNTS. Prove the row's statement (the work); the ties are given (YtnibpknhpjcamaaGreatDoorTie.lean); close each card by the builder's one call (the guide's Derived/Test/ToyasCard.lean, 'card_holds'). Laid BY PROGRAM, IN A SANDBOX (cutbox-door.mjs). By AI agents, Wed Nov 11 2026. No macro, syntax, notation, axiom, sorry.
-/
import Derived.Test.YtnibpknhpjcamaaGreatDoorRows
import GoSem.ClaimSeven
namespace Go.Proofs.YtnibpknhpjcamaaGreatDoor
namespace Rows

/-- THE TIED CARD OF 'headgatelaw05.LogFetches'. -/
def logFetchesCard : Claim7 := { stood := { row := logFetchesRow, standIns := [], harness := (true, "1c53ec782cb2b4a4c684b57baf1fc1ff97ec3fbc108e24c93b7b594c1270297c"), looks := false }, kinds := [], alts := [], laidByText := true, laidKinds := [.data, .pinned], laidTests := true, laidLooks := .later }
def LogFetchesCardSaid : Prop := Claim7.holds Tryz.pinned (.plain (OpenSpec.ofChange logFetchesSpec)) logFetchesCard

/-- THE TIED CARD OF 'headgatelaw05.LogSegments'. -/
def logSegmentsCard : Claim7 := { stood := { row := logSegmentsRow, standIns := [], harness := (true, "1c53ec782cb2b4a4c684b57baf1fc1ff97ec3fbc108e24c93b7b594c1270297c"), looks := false }, kinds := [], alts := [], laidByText := true, laidKinds := [.data, .pinned], laidTests := true, laidLooks := .later }
def LogSegmentsCardSaid : Prop := Claim7.holds Tryz.pinned (.plain (OpenSpec.ofChange logSegmentsSpec)) logSegmentsCard

/-- THE TIED CARD OF 'headgatelaw05.LogMarks'. -/
def logMarksCard : Claim7 := { stood := { row := logMarksRow, standIns := [], harness := (true, "1c53ec782cb2b4a4c684b57baf1fc1ff97ec3fbc108e24c93b7b594c1270297c"), looks := false }, kinds := [], alts := [], laidByText := true, laidKinds := [.data, .pinned], laidTests := true, laidLooks := .later }
def LogMarksCardSaid : Prop := Claim7.holds Tryz.pinned (.plain (OpenSpec.ofChange logMarksSpec)) logMarksCard

/-- THE TIED CARD OF 'headgatelaw05.LogFull'. -/
def logFullCard : Claim7 := { stood := { row := logFullRow, standIns := [], harness := (true, "1c53ec782cb2b4a4c684b57baf1fc1ff97ec3fbc108e24c93b7b594c1270297c"), looks := false }, kinds := [], alts := [], laidByText := true, laidKinds := [.data, .pinned], laidTests := true, laidLooks := .later }
def LogFullCardSaid : Prop := Claim7.holds Tryz.pinned (.plain (OpenSpec.ofChange logFullSpec)) logFullCard

/-- THE TIED CARD OF 'headgatelaw05.LogTorn'. -/
def logTornCard : Claim7 := { stood := { row := logTornRow, standIns := [], harness := (true, "1c53ec782cb2b4a4c684b57baf1fc1ff97ec3fbc108e24c93b7b594c1270297c"), looks := false }, kinds := [], alts := [], laidByText := true, laidKinds := [.data, .pinned], laidTests := true, laidLooks := .later }
def LogTornCardSaid : Prop := Claim7.holds Tryz.pinned (.plain (OpenSpec.ofChange logTornSpec)) logTornCard

/-- THE TIED CARD OF 'headgatelaw05.LogNone'. -/
def logNoneCard : Claim7 := { stood := { row := logNoneRow, standIns := [], harness := (true, "1c53ec782cb2b4a4c684b57baf1fc1ff97ec3fbc108e24c93b7b594c1270297c"), looks := false }, kinds := [], alts := [], laidByText := true, laidKinds := [.data, .pinned], laidTests := true, laidLooks := .later }
def LogNoneCardSaid : Prop := Claim7.holds Tryz.pinned (.plain (OpenSpec.ofChange logNoneSpec)) logNoneCard

/-- THE TIED CARD OF 'headgatelaw05.LogAgain'. -/
def logAgainCard : Claim7 := { stood := { row := logAgainRow, standIns := [], harness := (true, "1c53ec782cb2b4a4c684b57baf1fc1ff97ec3fbc108e24c93b7b594c1270297c"), looks := false }, kinds := [], alts := [], laidByText := true, laidKinds := [.data, .pinned], laidTests := true, laidLooks := .later }
def LogAgainCardSaid : Prop := Claim7.holds Tryz.pinned (.plain (OpenSpec.ofChange logAgainSpec)) logAgainCard

/-- THE TIED CARD OF 'headgatelaw05.LogPlays'. -/
def logPlaysCard : Claim7 := { stood := { row := logPlaysRow, standIns := [], harness := (true, "1c53ec782cb2b4a4c684b57baf1fc1ff97ec3fbc108e24c93b7b594c1270297c"), looks := false }, kinds := [], alts := [], laidByText := true, laidKinds := [.data, .pinned], laidTests := true, laidLooks := .later }
def LogPlaysCardSaid : Prop := Claim7.holds Tryz.pinned (.plain (OpenSpec.ofChange logPlaysSpec)) logPlaysCard

/-- THE SECOND FORM's CARD OF 'headgatelaw05.LogFetches'. -/
def logFetchesUptoCard : Claim7 := { stood := { row := logFetchesUptoRow, standIns := [], harness := (true, "1c53ec782cb2b4a4c684b57baf1fc1ff97ec3fbc108e24c93b7b594c1270297c"), looks := false }, kinds := [], alts := [], laidByText := true, laidKinds := [.data, .pinned], laidTests := true, laidLooks := .later }
def LogFetchesUptoCardSaid : Prop := Claim7.holds Tryz.pinned (.plain (OpenSpec.upto logFetchesSpec)) logFetchesUptoCard

/-- THE SECOND FORM's CARD OF 'headgatelaw05.LogSegments'. -/
def logSegmentsUptoCard : Claim7 := { stood := { row := logSegmentsUptoRow, standIns := [], harness := (true, "1c53ec782cb2b4a4c684b57baf1fc1ff97ec3fbc108e24c93b7b594c1270297c"), looks := false }, kinds := [], alts := [], laidByText := true, laidKinds := [.data, .pinned], laidTests := true, laidLooks := .later }
def LogSegmentsUptoCardSaid : Prop := Claim7.holds Tryz.pinned (.plain (OpenSpec.upto logSegmentsSpec)) logSegmentsUptoCard

/-- THE SECOND FORM's CARD OF 'headgatelaw05.LogMarks'. -/
def logMarksUptoCard : Claim7 := { stood := { row := logMarksUptoRow, standIns := [], harness := (true, "1c53ec782cb2b4a4c684b57baf1fc1ff97ec3fbc108e24c93b7b594c1270297c"), looks := false }, kinds := [], alts := [], laidByText := true, laidKinds := [.data, .pinned], laidTests := true, laidLooks := .later }
def LogMarksUptoCardSaid : Prop := Claim7.holds Tryz.pinned (.plain (OpenSpec.upto logMarksSpec)) logMarksUptoCard

/-- THE SECOND FORM's CARD OF 'headgatelaw05.LogFull'. -/
def logFullUptoCard : Claim7 := { stood := { row := logFullUptoRow, standIns := [], harness := (true, "1c53ec782cb2b4a4c684b57baf1fc1ff97ec3fbc108e24c93b7b594c1270297c"), looks := false }, kinds := [], alts := [], laidByText := true, laidKinds := [.data, .pinned], laidTests := true, laidLooks := .later }
def LogFullUptoCardSaid : Prop := Claim7.holds Tryz.pinned (.plain (OpenSpec.upto logFullSpec)) logFullUptoCard

/-- THE SECOND FORM's CARD OF 'headgatelaw05.LogTorn'. -/
def logTornUptoCard : Claim7 := { stood := { row := logTornUptoRow, standIns := [], harness := (true, "1c53ec782cb2b4a4c684b57baf1fc1ff97ec3fbc108e24c93b7b594c1270297c"), looks := false }, kinds := [], alts := [], laidByText := true, laidKinds := [.data, .pinned], laidTests := true, laidLooks := .later }
def LogTornUptoCardSaid : Prop := Claim7.holds Tryz.pinned (.plain (OpenSpec.upto logTornSpec)) logTornUptoCard

/-- THE SECOND FORM's CARD OF 'headgatelaw05.LogNone'. -/
def logNoneUptoCard : Claim7 := { stood := { row := logNoneUptoRow, standIns := [], harness := (true, "1c53ec782cb2b4a4c684b57baf1fc1ff97ec3fbc108e24c93b7b594c1270297c"), looks := false }, kinds := [], alts := [], laidByText := true, laidKinds := [.data, .pinned], laidTests := true, laidLooks := .later }
def LogNoneUptoCardSaid : Prop := Claim7.holds Tryz.pinned (.plain (OpenSpec.upto logNoneSpec)) logNoneUptoCard

/-- THE SECOND FORM's CARD OF 'headgatelaw05.LogAgain'. -/
def logAgainUptoCard : Claim7 := { stood := { row := logAgainUptoRow, standIns := [], harness := (true, "1c53ec782cb2b4a4c684b57baf1fc1ff97ec3fbc108e24c93b7b594c1270297c"), looks := false }, kinds := [], alts := [], laidByText := true, laidKinds := [.data, .pinned], laidTests := true, laidLooks := .later }
def LogAgainUptoCardSaid : Prop := Claim7.holds Tryz.pinned (.plain (OpenSpec.upto logAgainSpec)) logAgainUptoCard

/-- THE SECOND FORM's CARD OF 'headgatelaw05.LogPlays'. -/
def logPlaysUptoCard : Claim7 := { stood := { row := logPlaysUptoRow, standIns := [], harness := (true, "1c53ec782cb2b4a4c684b57baf1fc1ff97ec3fbc108e24c93b7b594c1270297c"), looks := false }, kinds := [], alts := [], laidByText := true, laidKinds := [.data, .pinned], laidTests := true, laidLooks := .later }
def LogPlaysUptoCardSaid : Prop := Claim7.holds Tryz.pinned (.plain (OpenSpec.upto logPlaysSpec)) logPlaysUptoCard
end Rows
end Go.Proofs.YtnibpknhpjcamaaGreatDoor
