/-
  DERIVED. GIVEN WITH THE SEED: THE CARDS: each row of YtbnefpdjcbegpaaGreatDoorRows.lean that lists a variable, with what it lists TIED to the program's text (the seventh form; the later family's looks); each row that meets fmt, with fmt's text TOLD by the authors' own Lean function (tested against real Go, not proved from fmt's source: count such statements apart). THE CARD IS WHAT COUNTS. Prove the row's statement (the work); the ties are given (YtbnefpdjcbegpaaGreatDoorTie.lean); close each card by the builder's one call (the guide's Derived/Test/ToyasCard.lean, 'card_holds'). Laid BY PROGRAM, IN A SANDBOX (cutbox-door.mjs). By AI agents, Wed Nov 11 2026. No macro, syntax, notation, axiom, sorry.
-/
import Derived.Test.YtbnefpdjcbegpaaGreatDoorRows
import GoSem.ClaimSeven
namespace Go.Proofs.YtbnefpdjcbegpaaGreatDoor
namespace Rows

/-- THE TIED CARD OF 'headgatelaw13.CoordExpires'. -/
def coordExpiresCard : Claim7 := { stood := { row := coordExpiresRow, standIns := [], harness := (true, "51177566cc6ba8bc06ee207d1ab8cc46d99d4c97b275059d6f4f48770b22c0cc"), looks := false }, kinds := [], alts := [], laidByText := true, laidKinds := [.data, .pinned], laidTests := true, laidLooks := .later }
def CoordExpiresCardSaid : Prop := Claim7.holds Tryz.pinned (.plain (OpenSpec.ofChange coordExpiresSpec)) coordExpiresCard

/-- THE TIED CARD OF 'headgatelaw13.CoordFences'. -/
def coordFencesCard : Claim7 := { stood := { row := coordFencesRow, standIns := [], harness := (true, "51177566cc6ba8bc06ee207d1ab8cc46d99d4c97b275059d6f4f48770b22c0cc"), looks := false }, kinds := [], alts := [], laidByText := true, laidKinds := [.data, .pinned], laidTests := true, laidLooks := .later }
def CoordFencesCardSaid : Prop := Claim7.holds Tryz.pinned (.plain (OpenSpec.ofChange coordFencesSpec)) coordFencesCard

/-- THE TIED CARD OF 'headgatelaw13.CoordLasts'. -/
def coordLastsCard : Claim7 := { stood := { row := coordLastsRow, standIns := [], harness := (true, "51177566cc6ba8bc06ee207d1ab8cc46d99d4c97b275059d6f4f48770b22c0cc"), looks := false }, kinds := [], alts := [], laidByText := true, laidKinds := [.data, .pinned], laidTests := true, laidLooks := .later }
def CoordLastsCardSaid : Prop := Claim7.holds Tryz.pinned (.plain (OpenSpec.ofChange coordLastsSpec)) coordLastsCard

/-- THE TIED CARD OF 'headgatelaw13.CoordRebuilt'. -/
def coordRebuiltCard : Claim7 := { stood := { row := coordRebuiltRow, standIns := [], harness := (true, "51177566cc6ba8bc06ee207d1ab8cc46d99d4c97b275059d6f4f48770b22c0cc"), looks := false }, kinds := [], alts := [], laidByText := true, laidKinds := [.data, .pinned], laidTests := true, laidLooks := .later }
def CoordRebuiltCardSaid : Prop := Claim7.holds Tryz.pinned (.plain (OpenSpec.ofChange coordRebuiltSpec)) coordRebuiltCard

/-- THE TIED CARD OF 'headgatelaw13.CoordNone'. -/
def coordNoneCard : Claim7 := { stood := { row := coordNoneRow, standIns := [], harness := (true, "51177566cc6ba8bc06ee207d1ab8cc46d99d4c97b275059d6f4f48770b22c0cc"), looks := false }, kinds := [], alts := [], laidByText := true, laidKinds := [.data, .pinned], laidTests := true, laidLooks := .later }
def CoordNoneCardSaid : Prop := Claim7.holds Tryz.pinned (.plain (OpenSpec.ofChange coordNoneSpec)) coordNoneCard

/-- THE TIED CARD OF 'headgatelaw13.CoordEnds'. -/
def coordEndsCard : Claim7 := { stood := { row := coordEndsRow, standIns := [], harness := (true, "51177566cc6ba8bc06ee207d1ab8cc46d99d4c97b275059d6f4f48770b22c0cc"), looks := false }, kinds := [], alts := [], laidByText := true, laidKinds := [.data, .pinned], laidTests := true, laidLooks := .later }
def CoordEndsCardSaid : Prop := Claim7.holds Tryz.pinned (.plain (OpenSpec.ofChange coordEndsSpec)) coordEndsCard

/-- THE SECOND FORM's CARD OF 'headgatelaw13.CoordExpires'. -/
def coordExpiresUptoCard : Claim7 := { stood := { row := coordExpiresUptoRow, standIns := [], harness := (true, "51177566cc6ba8bc06ee207d1ab8cc46d99d4c97b275059d6f4f48770b22c0cc"), looks := false }, kinds := [], alts := [], laidByText := true, laidKinds := [.data, .pinned], laidTests := true, laidLooks := .later }
def CoordExpiresUptoCardSaid : Prop := Claim7.holds Tryz.pinned (.plain (OpenSpec.upto coordExpiresSpec)) coordExpiresUptoCard

/-- THE SECOND FORM's CARD OF 'headgatelaw13.CoordFences'. -/
def coordFencesUptoCard : Claim7 := { stood := { row := coordFencesUptoRow, standIns := [], harness := (true, "51177566cc6ba8bc06ee207d1ab8cc46d99d4c97b275059d6f4f48770b22c0cc"), looks := false }, kinds := [], alts := [], laidByText := true, laidKinds := [.data, .pinned], laidTests := true, laidLooks := .later }
def CoordFencesUptoCardSaid : Prop := Claim7.holds Tryz.pinned (.plain (OpenSpec.upto coordFencesSpec)) coordFencesUptoCard

/-- THE SECOND FORM's CARD OF 'headgatelaw13.CoordLasts'. -/
def coordLastsUptoCard : Claim7 := { stood := { row := coordLastsUptoRow, standIns := [], harness := (true, "51177566cc6ba8bc06ee207d1ab8cc46d99d4c97b275059d6f4f48770b22c0cc"), looks := false }, kinds := [], alts := [], laidByText := true, laidKinds := [.data, .pinned], laidTests := true, laidLooks := .later }
def CoordLastsUptoCardSaid : Prop := Claim7.holds Tryz.pinned (.plain (OpenSpec.upto coordLastsSpec)) coordLastsUptoCard

/-- THE SECOND FORM's CARD OF 'headgatelaw13.CoordRebuilt'. -/
def coordRebuiltUptoCard : Claim7 := { stood := { row := coordRebuiltUptoRow, standIns := [], harness := (true, "51177566cc6ba8bc06ee207d1ab8cc46d99d4c97b275059d6f4f48770b22c0cc"), looks := false }, kinds := [], alts := [], laidByText := true, laidKinds := [.data, .pinned], laidTests := true, laidLooks := .later }
def CoordRebuiltUptoCardSaid : Prop := Claim7.holds Tryz.pinned (.plain (OpenSpec.upto coordRebuiltSpec)) coordRebuiltUptoCard

/-- THE SECOND FORM's CARD OF 'headgatelaw13.CoordNone'. -/
def coordNoneUptoCard : Claim7 := { stood := { row := coordNoneUptoRow, standIns := [], harness := (true, "51177566cc6ba8bc06ee207d1ab8cc46d99d4c97b275059d6f4f48770b22c0cc"), looks := false }, kinds := [], alts := [], laidByText := true, laidKinds := [.data, .pinned], laidTests := true, laidLooks := .later }
def CoordNoneUptoCardSaid : Prop := Claim7.holds Tryz.pinned (.plain (OpenSpec.upto coordNoneSpec)) coordNoneUptoCard

/-- THE SECOND FORM's CARD OF 'headgatelaw13.CoordEnds'. -/
def coordEndsUptoCard : Claim7 := { stood := { row := coordEndsUptoRow, standIns := [], harness := (true, "51177566cc6ba8bc06ee207d1ab8cc46d99d4c97b275059d6f4f48770b22c0cc"), looks := false }, kinds := [], alts := [], laidByText := true, laidKinds := [.data, .pinned], laidTests := true, laidLooks := .later }
def CoordEndsUptoCardSaid : Prop := Claim7.holds Tryz.pinned (.plain (OpenSpec.upto coordEndsSpec)) coordEndsUptoCard
end Rows
end Go.Proofs.YtbnefpdjcbegpaaGreatDoor
