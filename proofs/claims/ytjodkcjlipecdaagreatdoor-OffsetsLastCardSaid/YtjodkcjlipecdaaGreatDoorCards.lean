/-
  DERIVED. GIVEN WITH THE SEED: THE CARDS: each row of YtjodkcjlipecdaaGreatDoorRows.lean that lists a variable, with what it lists TIED to the program's text (the seventh form; the later family's looks); each row that meets fmt, with fmt's text TOLD by the authors' own Lean function (tested against real Go, not proved from fmt's source: count such statements apart). THE CARD IS WHAT COUNTS. Prove the row's statement (the work); the ties are given (YtjodkcjlipecdaaGreatDoorTie.lean); close each card by the builder's one call (the guide's Derived/Test/ToyasCard.lean, 'card_holds'). Laid BY PROGRAM, IN A SANDBOX (cutbox-door.mjs). By AI agents, Wed Nov 11 2026. No macro, syntax, notation, axiom, sorry.
-/
import Derived.Test.YtjodkcjlipecdaaGreatDoorRows
import GoSem.ClaimSeven
namespace Go.Proofs.YtjodkcjlipecdaaGreatDoor
namespace Rows

/-- THE TIED CARD OF 'headgatelaw05.LogPlays'. -/
def logPlaysCard : Claim7 := { stood := { row := logPlaysRow, standIns := [], harness := (true, "55349fdaf30c0cc432b78b7ef8e7db85168a684bf4e5c9b485edfc97b2381d81"), looks := false }, kinds := [], alts := [], laidByText := true, laidKinds := [.data, .pinned], laidTests := true, laidLooks := .later }
def LogPlaysCardSaid : Prop := Claim7.holds Tryz.pinned (.plain (OpenSpec.ofChange logPlaysSpec)) logPlaysCard

/-- THE TIED CARD OF 'headgatelaw11.OffsetsWait'. -/
def offsetsWaitCard : Claim7 := { stood := { row := offsetsWaitRow, standIns := [], harness := (true, "55349fdaf30c0cc432b78b7ef8e7db85168a684bf4e5c9b485edfc97b2381d81"), looks := false }, kinds := [], alts := [], laidByText := true, laidKinds := [.data, .pinned], laidTests := true, laidLooks := .later }
def OffsetsWaitCardSaid : Prop := Claim7.holds Tryz.pinned (.plain (OpenSpec.ofChange offsetsWaitSpec)) offsetsWaitCard

/-- THE TIED CARD OF 'headgatelaw11.OffsetsRise'. -/
def offsetsRiseCard : Claim7 := { stood := { row := offsetsRiseRow, standIns := [], harness := (true, "55349fdaf30c0cc432b78b7ef8e7db85168a684bf4e5c9b485edfc97b2381d81"), looks := false }, kinds := [], alts := [], laidByText := true, laidKinds := [.data, .pinned], laidTests := true, laidLooks := .later }
def OffsetsRiseCardSaid : Prop := Claim7.holds Tryz.pinned (.plain (OpenSpec.ofChange offsetsRiseSpec)) offsetsRiseCard

/-- THE TIED CARD OF 'headgatelaw11.OffsetsNone'. -/
def offsetsNoneCard : Claim7 := { stood := { row := offsetsNoneRow, standIns := [], harness := (true, "55349fdaf30c0cc432b78b7ef8e7db85168a684bf4e5c9b485edfc97b2381d81"), looks := false }, kinds := [], alts := [], laidByText := true, laidKinds := [.data, .pinned], laidTests := true, laidLooks := .later }
def OffsetsNoneCardSaid : Prop := Claim7.holds Tryz.pinned (.plain (OpenSpec.ofChange offsetsNoneSpec)) offsetsNoneCard

/-- THE TIED CARD OF 'headgatelaw11.OffsetsLast'. -/
def offsetsLastCard : Claim7 := { stood := { row := offsetsLastRow, standIns := [], harness := (true, "55349fdaf30c0cc432b78b7ef8e7db85168a684bf4e5c9b485edfc97b2381d81"), looks := false }, kinds := [], alts := [], laidByText := true, laidKinds := [.data, .pinned], laidTests := true, laidLooks := .later }
def OffsetsLastCardSaid : Prop := Claim7.holds Tryz.pinned (.plain (OpenSpec.ofChange offsetsLastSpec)) offsetsLastCard

/-- THE TIED CARD OF 'headgatelaw11.OffsetsPlay'. -/
def offsetsPlayCard : Claim7 := { stood := { row := offsetsPlayRow, standIns := [], harness := (true, "55349fdaf30c0cc432b78b7ef8e7db85168a684bf4e5c9b485edfc97b2381d81"), looks := false }, kinds := [], alts := [], laidByText := true, laidKinds := [.data, .pinned], laidTests := true, laidLooks := .later }
def OffsetsPlayCardSaid : Prop := Claim7.holds Tryz.pinned (.plain (OpenSpec.ofChange offsetsPlaySpec)) offsetsPlayCard

/-- THE SECOND FORM's CARD OF 'headgatelaw05.LogPlays'. -/
def logPlaysUptoCard : Claim7 := { stood := { row := logPlaysUptoRow, standIns := [], harness := (true, "55349fdaf30c0cc432b78b7ef8e7db85168a684bf4e5c9b485edfc97b2381d81"), looks := false }, kinds := [], alts := [], laidByText := true, laidKinds := [.data, .pinned], laidTests := true, laidLooks := .later }
def LogPlaysUptoCardSaid : Prop := Claim7.holds Tryz.pinned (.plain (OpenSpec.upto logPlaysSpec)) logPlaysUptoCard

/-- THE SECOND FORM's CARD OF 'headgatelaw11.OffsetsWait'. -/
def offsetsWaitUptoCard : Claim7 := { stood := { row := offsetsWaitUptoRow, standIns := [], harness := (true, "55349fdaf30c0cc432b78b7ef8e7db85168a684bf4e5c9b485edfc97b2381d81"), looks := false }, kinds := [], alts := [], laidByText := true, laidKinds := [.data, .pinned], laidTests := true, laidLooks := .later }
def OffsetsWaitUptoCardSaid : Prop := Claim7.holds Tryz.pinned (.plain (OpenSpec.upto offsetsWaitSpec)) offsetsWaitUptoCard

/-- THE SECOND FORM's CARD OF 'headgatelaw11.OffsetsRise'. -/
def offsetsRiseUptoCard : Claim7 := { stood := { row := offsetsRiseUptoRow, standIns := [], harness := (true, "55349fdaf30c0cc432b78b7ef8e7db85168a684bf4e5c9b485edfc97b2381d81"), looks := false }, kinds := [], alts := [], laidByText := true, laidKinds := [.data, .pinned], laidTests := true, laidLooks := .later }
def OffsetsRiseUptoCardSaid : Prop := Claim7.holds Tryz.pinned (.plain (OpenSpec.upto offsetsRiseSpec)) offsetsRiseUptoCard

/-- THE SECOND FORM's CARD OF 'headgatelaw11.OffsetsNone'. -/
def offsetsNoneUptoCard : Claim7 := { stood := { row := offsetsNoneUptoRow, standIns := [], harness := (true, "55349fdaf30c0cc432b78b7ef8e7db85168a684bf4e5c9b485edfc97b2381d81"), looks := false }, kinds := [], alts := [], laidByText := true, laidKinds := [.data, .pinned], laidTests := true, laidLooks := .later }
def OffsetsNoneUptoCardSaid : Prop := Claim7.holds Tryz.pinned (.plain (OpenSpec.upto offsetsNoneSpec)) offsetsNoneUptoCard

/-- THE SECOND FORM's CARD OF 'headgatelaw11.OffsetsLast'. -/
def offsetsLastUptoCard : Claim7 := { stood := { row := offsetsLastUptoRow, standIns := [], harness := (true, "55349fdaf30c0cc432b78b7ef8e7db85168a684bf4e5c9b485edfc97b2381d81"), looks := false }, kinds := [], alts := [], laidByText := true, laidKinds := [.data, .pinned], laidTests := true, laidLooks := .later }
def OffsetsLastUptoCardSaid : Prop := Claim7.holds Tryz.pinned (.plain (OpenSpec.upto offsetsLastSpec)) offsetsLastUptoCard

/-- THE SECOND FORM's CARD OF 'headgatelaw11.OffsetsPlay'. -/
def offsetsPlayUptoCard : Claim7 := { stood := { row := offsetsPlayUptoRow, standIns := [], harness := (true, "55349fdaf30c0cc432b78b7ef8e7db85168a684bf4e5c9b485edfc97b2381d81"), looks := false }, kinds := [], alts := [], laidByText := true, laidKinds := [.data, .pinned], laidTests := true, laidLooks := .later }
def OffsetsPlayUptoCardSaid : Prop := Claim7.holds Tryz.pinned (.plain (OpenSpec.upto offsetsPlaySpec)) offsetsPlayUptoCard
end Rows
end Go.Proofs.YtjodkcjlipecdaaGreatDoor
