/-
  DERIVED. GIVEN WITH THE SEED: THE CARDS: each row of YtgjkjkeeblbjlaaGreatDoorRows.lean that lists a variable, with what it lists TIED to the program's text (the seventh form; the later family's looks); each row that meets fmt, with fmt's text TOLD by the authors' own Lean function (tested against real Go, not proved from fmt's source: count such statements apart). THE CARD IS WHAT COUNTS. Prove the row's statement (the work); the ties are given (YtgjkjkeeblbjlaaGreatDoorTie.lean); close each card by the builder's one call (the guide's Derived/Test/ToyasCard.lean, 'card_holds'). Laid BY PROGRAM, IN A SANDBOX (cutbox-door.mjs). By AI agents, Wed Nov 11 2026. No macro, syntax, notation, axiom, sorry.
-/
import Derived.Test.YtgjkjkeeblbjlaaGreatDoorRows
import GoSem.ClaimSeven
namespace Go.Proofs.YtgjkjkeeblbjlaaGreatDoor
namespace Rows

/-- THE TIED CARD OF 'headgatelaw08.PartCommitted'. -/
def partCommittedCard : Claim7 := { stood := { row := partCommittedRow, standIns := [], harness := (true, "dcfdd9580a7ae3c87ea309755660fe3919df1e72f43b906727efc3e3120b44aa"), looks := false }, kinds := [], alts := [], laidByText := true, laidKinds := [.data, .pinned], laidTests := true, laidLooks := .later }
def PartCommittedCardSaid : Prop := Claim7.holds Tryz.pinned (.plain (OpenSpec.ofChange partCommittedSpec)) partCommittedCard

/-- THE TIED CARD OF 'headgatelaw08.PartStable'. -/
def partStableCard : Claim7 := { stood := { row := partStableRow, standIns := [], harness := (true, "dcfdd9580a7ae3c87ea309755660fe3919df1e72f43b906727efc3e3120b44aa"), looks := false }, kinds := [], alts := [], laidByText := true, laidKinds := [.data, .pinned], laidTests := true, laidLooks := .later }
def PartStableCardSaid : Prop := Claim7.holds Tryz.pinned (.plain (OpenSpec.ofChange partStableSpec)) partStableCard

/-- THE TIED CARD OF 'headgatelaw08.PartMarks'. -/
def partMarksCard : Claim7 := { stood := { row := partMarksRow, standIns := [], harness := (true, "dcfdd9580a7ae3c87ea309755660fe3919df1e72f43b906727efc3e3120b44aa"), looks := false }, kinds := [], alts := [], laidByText := true, laidKinds := [.data, .pinned], laidTests := true, laidLooks := .later }
def PartMarksCardSaid : Prop := Claim7.holds Tryz.pinned (.plain (OpenSpec.ofChange partMarksSpec)) partMarksCard

/-- THE TIED CARD OF 'headgatelaw08.PartNone'. -/
def partNoneCard : Claim7 := { stood := { row := partNoneRow, standIns := [], harness := (true, "dcfdd9580a7ae3c87ea309755660fe3919df1e72f43b906727efc3e3120b44aa"), looks := false }, kinds := [], alts := [], laidByText := true, laidKinds := [.data, .pinned], laidTests := true, laidLooks := .later }
def PartNoneCardSaid : Prop := Claim7.holds Tryz.pinned (.plain (OpenSpec.ofChange partNoneSpec)) partNoneCard

/-- THE TIED CARD OF 'headgatelaw08.PartLasts'. -/
def partLastsCard : Claim7 := { stood := { row := partLastsRow, standIns := [], harness := (true, "dcfdd9580a7ae3c87ea309755660fe3919df1e72f43b906727efc3e3120b44aa"), looks := false }, kinds := [], alts := [], laidByText := true, laidKinds := [.data, .pinned], laidTests := true, laidLooks := .later }
def PartLastsCardSaid : Prop := Claim7.holds Tryz.pinned (.plain (OpenSpec.ofChange partLastsSpec)) partLastsCard

/-- THE TIED CARD OF 'headgatelaw08.PartOnce'. -/
def partOnceCard : Claim7 := { stood := { row := partOnceRow, standIns := [], harness := (true, "dcfdd9580a7ae3c87ea309755660fe3919df1e72f43b906727efc3e3120b44aa"), looks := false }, kinds := [], alts := [], laidByText := true, laidKinds := [.data, .pinned], laidTests := true, laidLooks := .later }
def PartOnceCardSaid : Prop := Claim7.holds Tryz.pinned (.plain (OpenSpec.ofChange partOnceSpec)) partOnceCard

/-- THE TIED CARD OF 'headgatelaw08.PartRebuilt'. -/
def partRebuiltCard : Claim7 := { stood := { row := partRebuiltRow, standIns := [], harness := (true, "dcfdd9580a7ae3c87ea309755660fe3919df1e72f43b906727efc3e3120b44aa"), looks := false }, kinds := [], alts := [], laidByText := true, laidKinds := [.data, .pinned], laidTests := true, laidLooks := .later }
def PartRebuiltCardSaid : Prop := Claim7.holds Tryz.pinned (.plain (OpenSpec.ofChange partRebuiltSpec)) partRebuiltCard

/-- THE SECOND FORM's CARD OF 'headgatelaw08.PartCommitted'. -/
def partCommittedUptoCard : Claim7 := { stood := { row := partCommittedUptoRow, standIns := [], harness := (true, "dcfdd9580a7ae3c87ea309755660fe3919df1e72f43b906727efc3e3120b44aa"), looks := false }, kinds := [], alts := [], laidByText := true, laidKinds := [.data, .pinned], laidTests := true, laidLooks := .later }
def PartCommittedUptoCardSaid : Prop := Claim7.holds Tryz.pinned (.plain (OpenSpec.upto partCommittedSpec)) partCommittedUptoCard

/-- THE SECOND FORM's CARD OF 'headgatelaw08.PartStable'. -/
def partStableUptoCard : Claim7 := { stood := { row := partStableUptoRow, standIns := [], harness := (true, "dcfdd9580a7ae3c87ea309755660fe3919df1e72f43b906727efc3e3120b44aa"), looks := false }, kinds := [], alts := [], laidByText := true, laidKinds := [.data, .pinned], laidTests := true, laidLooks := .later }
def PartStableUptoCardSaid : Prop := Claim7.holds Tryz.pinned (.plain (OpenSpec.upto partStableSpec)) partStableUptoCard

/-- THE SECOND FORM's CARD OF 'headgatelaw08.PartMarks'. -/
def partMarksUptoCard : Claim7 := { stood := { row := partMarksUptoRow, standIns := [], harness := (true, "dcfdd9580a7ae3c87ea309755660fe3919df1e72f43b906727efc3e3120b44aa"), looks := false }, kinds := [], alts := [], laidByText := true, laidKinds := [.data, .pinned], laidTests := true, laidLooks := .later }
def PartMarksUptoCardSaid : Prop := Claim7.holds Tryz.pinned (.plain (OpenSpec.upto partMarksSpec)) partMarksUptoCard

/-- THE SECOND FORM's CARD OF 'headgatelaw08.PartNone'. -/
def partNoneUptoCard : Claim7 := { stood := { row := partNoneUptoRow, standIns := [], harness := (true, "dcfdd9580a7ae3c87ea309755660fe3919df1e72f43b906727efc3e3120b44aa"), looks := false }, kinds := [], alts := [], laidByText := true, laidKinds := [.data, .pinned], laidTests := true, laidLooks := .later }
def PartNoneUptoCardSaid : Prop := Claim7.holds Tryz.pinned (.plain (OpenSpec.upto partNoneSpec)) partNoneUptoCard

/-- THE SECOND FORM's CARD OF 'headgatelaw08.PartLasts'. -/
def partLastsUptoCard : Claim7 := { stood := { row := partLastsUptoRow, standIns := [], harness := (true, "dcfdd9580a7ae3c87ea309755660fe3919df1e72f43b906727efc3e3120b44aa"), looks := false }, kinds := [], alts := [], laidByText := true, laidKinds := [.data, .pinned], laidTests := true, laidLooks := .later }
def PartLastsUptoCardSaid : Prop := Claim7.holds Tryz.pinned (.plain (OpenSpec.upto partLastsSpec)) partLastsUptoCard

/-- THE SECOND FORM's CARD OF 'headgatelaw08.PartOnce'. -/
def partOnceUptoCard : Claim7 := { stood := { row := partOnceUptoRow, standIns := [], harness := (true, "dcfdd9580a7ae3c87ea309755660fe3919df1e72f43b906727efc3e3120b44aa"), looks := false }, kinds := [], alts := [], laidByText := true, laidKinds := [.data, .pinned], laidTests := true, laidLooks := .later }
def PartOnceUptoCardSaid : Prop := Claim7.holds Tryz.pinned (.plain (OpenSpec.upto partOnceSpec)) partOnceUptoCard

/-- THE SECOND FORM's CARD OF 'headgatelaw08.PartRebuilt'. -/
def partRebuiltUptoCard : Claim7 := { stood := { row := partRebuiltUptoRow, standIns := [], harness := (true, "dcfdd9580a7ae3c87ea309755660fe3919df1e72f43b906727efc3e3120b44aa"), looks := false }, kinds := [], alts := [], laidByText := true, laidKinds := [.data, .pinned], laidTests := true, laidLooks := .later }
def PartRebuiltUptoCardSaid : Prop := Claim7.holds Tryz.pinned (.plain (OpenSpec.upto partRebuiltSpec)) partRebuiltUptoCard
end Rows
end Go.Proofs.YtgjkjkeeblbjlaaGreatDoor
