/-
  NARROWER THAN 'FOR EVERY INPUT', by the rows' own cells (each row's printed sentence says how): CoordExpires: laid · CoordFences: laid · CoordLasts: laid · CoordRebuilt: laid · CoordNone: laid · CoordEnds: laid.
  DERIVED. THE GIVEN ROWS OF THIS SEAT. 6 by the template 'for every input the law returns true; each argument reads behind the call as it read before'; 0 by the template 'total and deterministic' (their statements: YtbnefpdjcbegpaaGreatDoorTotals.lean).
  GIVEN WITH THE SEED: the statements are not yours to turn. If you find one false, say at which input.
  Laid BY PROGRAM, IN A SANDBOX (cutbox-rows.mjs): the forced cells as the released guide's own fill.sh prints them over the translation 6fac0850870de127… (all of the seat's roots in one cut). By AI agents, Wed Nov 11 2026. No macro, syntax, notation, axiom, sorry.
-/
import Derived.Test.YtbnefpdjcbegpaaGreatDoorChecked
import GoSem.PinnedTables
import GoSem.Claim
import GoSem.ClaimJoined
import GoSem.ClaimMapViews
import Derived.JoinedTies
import Derived.KernelRfl
namespace Go.Proofs.YtbnefpdjcbegpaaGreatDoor
/- THE CELL 'sum', in the pinned program and in every row, IS THE sha256 OF THE DUMP (.gsa) THAT YtbnefpdjcbegpaaGreatDoorProg.lean LOADS. Nothing in Lean hashes anything: it is a label: what it is worth is what the hold of that sum in a sandbox is worth. -/
noncomputable def Tryz.pinned : Pinned := { name := "ytbnefpdjcbegpaagreatdoor", sum := "6fac0850870de12798ef6c8bf4f07870cedff9a24608b17fcb60602079a2b170", checked := Tryz.checked }
namespace Rows
def none {H : Type} : Left H := { results := [], args := [] }

/- WHAT THE LISTED PACKAGE-LEVEL VARIABLES READ AS WHEN THE CALL BEGINS. Each datum BY PROGRAM (the guide's laid-datum.mjs) off the statement by which the dump's own 'gosem.cut.vars' lays the variable. In a bare row this is a premise. The card (YtbnefpdjcbegpaaGreatDoorCards.lean) ties it to the program's text. -/
def laid_unicode_utf8_acceptRanges {H : Type} : DataW H := .agg [.agg [.lit (.int .u8 128), .lit (.int .u8 191)], .agg [.lit (.int .u8 160), .lit (.int .u8 191)], .agg [.lit (.int .u8 128), .lit (.int .u8 159)], .agg [.lit (.int .u8 144), .lit (.int .u8 191)], .agg [.lit (.int .u8 128), .lit (.int .u8 143)], .agg [.lit (.int .u8 0), .lit (.int .u8 0)], .agg [.lit (.int .u8 0), .lit (.int .u8 0)], .agg [.lit (.int .u8 0), .lit (.int .u8 0)], .agg [.lit (.int .u8 0), .lit (.int .u8 0)], .agg [.lit (.int .u8 0), .lit (.int .u8 0)], .agg [.lit (.int .u8 0), .lit (.int .u8 0)], .agg [.lit (.int .u8 0), .lit (.int .u8 0)], .agg [.lit (.int .u8 0), .lit (.int .u8 0)], .agg [.lit (.int .u8 0), .lit (.int .u8 0)], .agg [.lit (.int .u8 0), .lit (.int .u8 0)], .agg [.lit (.int .u8 0), .lit (.int .u8 0)]]
/-- One of Go's own tables, pinned by name: the form's constant. -/
def laid_unicode_utf8_first : DataW Unit := Go.Pinned.utf8First

/-- 'headgatelaw13.CoordExpires': WHATEVER THE INPUT: true; the input reads as it did. -/
def coordExpiresSpec : ChangeSpec := { name := "coordExpires", fn := fun _ => fun
  | [d1, d2, d3, d4] => { results := [.lit (.bool true)], args := [d1, d2, d3, d4] }
  | _ => none }
def coordExpiresRow : OpenClaim := { program := "ytbnefpdjcbegpaagreatdoor", sum := "6fac0850870de12798ef6c8bf4f07870cedff9a24608b17fcb60602079a2b170", func := "headgate/headgatelaw13.CoordExpires", spec := "coordExpires", inPlace := ["internal/bytealg.IndexByteString", "internal/bytealg.IndexString", "slices.overlaps[headgate/api.Trans]", "internal/abi.NoEscape", "internal/bytealg.MakeNoZero"], unfollowed := true, recurses := true, named := ["unicode/utf8.first", "unicode/utf8.acceptRanges", "internal/bytealg.MaxLen"], apart := false, laid := [("unicode/utf8.acceptRanges", laid_unicode_utf8_acceptRanges), ("unicode/utf8.first", laid_unicode_utf8_first)] }
def CoordExpiresSaid : Prop := coordExpiresRow.holds Tryz.pinned (OpenSpec.ofChange coordExpiresSpec)

/-- ITS FALSE NEIGHBOUR: 'it returns false'. Refute it at one input. -/
def coordExpiresWrong : ChangeSpec := { name := "coordExpires", fn := fun _ => fun
  | [d1, d2, d3, d4] => { results := [.lit (.bool false)], args := [d1, d2, d3, d4] }
  | _ => none }
def CoordExpiresWrongFalsely : Prop := coordExpiresRow.holds Tryz.pinned (OpenSpec.ofChange coordExpiresWrong)

/-- 'headgatelaw13.CoordFences': WHATEVER THE INPUT: true; the input reads as it did. -/
def coordFencesSpec : ChangeSpec := { name := "coordFences", fn := fun _ => fun
  | [d1, d2, d3, d4, d5] => { results := [.lit (.bool true)], args := [d1, d2, d3, d4, d5] }
  | _ => none }
def coordFencesRow : OpenClaim := { program := "ytbnefpdjcbegpaagreatdoor", sum := "6fac0850870de12798ef6c8bf4f07870cedff9a24608b17fcb60602079a2b170", func := "headgate/headgatelaw13.CoordFences", spec := "coordFences", inPlace := ["internal/bytealg.IndexByteString", "internal/bytealg.IndexString", "slices.overlaps[headgate/api.Trans]", "internal/abi.NoEscape", "internal/bytealg.MakeNoZero"], unfollowed := true, recurses := true, named := ["unicode/utf8.first", "unicode/utf8.acceptRanges", "internal/bytealg.MaxLen"], apart := false, laid := [("unicode/utf8.acceptRanges", laid_unicode_utf8_acceptRanges), ("unicode/utf8.first", laid_unicode_utf8_first)] }
def CoordFencesSaid : Prop := coordFencesRow.holds Tryz.pinned (OpenSpec.ofChange coordFencesSpec)

/-- ITS FALSE NEIGHBOUR: 'it returns false'. Refute it at one input. -/
def coordFencesWrong : ChangeSpec := { name := "coordFences", fn := fun _ => fun
  | [d1, d2, d3, d4, d5] => { results := [.lit (.bool false)], args := [d1, d2, d3, d4, d5] }
  | _ => none }
def CoordFencesWrongFalsely : Prop := coordFencesRow.holds Tryz.pinned (OpenSpec.ofChange coordFencesWrong)

/-- 'headgatelaw13.CoordLasts': WHATEVER THE INPUT: true; the input reads as it did. -/
def coordLastsSpec : ChangeSpec := { name := "coordLasts", fn := fun _ => fun
  | [d1, d2, d3, d4] => { results := [.lit (.bool true)], args := [d1, d2, d3, d4] }
  | _ => none }
def coordLastsRow : OpenClaim := { program := "ytbnefpdjcbegpaagreatdoor", sum := "6fac0850870de12798ef6c8bf4f07870cedff9a24608b17fcb60602079a2b170", func := "headgate/headgatelaw13.CoordLasts", spec := "coordLasts", inPlace := ["internal/bytealg.IndexByteString", "internal/bytealg.IndexString", "slices.overlaps[headgate/api.Trans]", "internal/abi.NoEscape", "internal/bytealg.MakeNoZero"], unfollowed := true, recurses := true, named := ["unicode/utf8.first", "unicode/utf8.acceptRanges", "internal/bytealg.MaxLen"], apart := false, laid := [("unicode/utf8.acceptRanges", laid_unicode_utf8_acceptRanges), ("unicode/utf8.first", laid_unicode_utf8_first)] }
def CoordLastsSaid : Prop := coordLastsRow.holds Tryz.pinned (OpenSpec.ofChange coordLastsSpec)

/-- ITS FALSE NEIGHBOUR: 'it returns false'. Refute it at one input. -/
def coordLastsWrong : ChangeSpec := { name := "coordLasts", fn := fun _ => fun
  | [d1, d2, d3, d4] => { results := [.lit (.bool false)], args := [d1, d2, d3, d4] }
  | _ => none }
def CoordLastsWrongFalsely : Prop := coordLastsRow.holds Tryz.pinned (OpenSpec.ofChange coordLastsWrong)

/-- 'headgatelaw13.CoordRebuilt': WHATEVER THE INPUT: true; the input reads as it did. -/
def coordRebuiltSpec : ChangeSpec := { name := "coordRebuilt", fn := fun _ => fun
  | [d1, d2] => { results := [.lit (.bool true)], args := [d1, d2] }
  | _ => none }
def coordRebuiltRow : OpenClaim := { program := "ytbnefpdjcbegpaagreatdoor", sum := "6fac0850870de12798ef6c8bf4f07870cedff9a24608b17fcb60602079a2b170", func := "headgate/headgatelaw13.CoordRebuilt", spec := "coordRebuilt", inPlace := ["internal/bytealg.IndexByteString", "internal/bytealg.IndexString", "slices.overlaps[headgate/api.Trans]", "internal/abi.NoEscape", "internal/bytealg.MakeNoZero"], unfollowed := true, recurses := true, named := ["unicode/utf8.first", "unicode/utf8.acceptRanges", "internal/bytealg.MaxLen"], apart := false, laid := [("unicode/utf8.acceptRanges", laid_unicode_utf8_acceptRanges), ("unicode/utf8.first", laid_unicode_utf8_first)] }
def CoordRebuiltSaid : Prop := coordRebuiltRow.holds Tryz.pinned (OpenSpec.ofChange coordRebuiltSpec)

/-- ITS FALSE NEIGHBOUR: 'it returns false'. Refute it at one input. -/
def coordRebuiltWrong : ChangeSpec := { name := "coordRebuilt", fn := fun _ => fun
  | [d1, d2] => { results := [.lit (.bool false)], args := [d1, d2] }
  | _ => none }
def CoordRebuiltWrongFalsely : Prop := coordRebuiltRow.holds Tryz.pinned (OpenSpec.ofChange coordRebuiltWrong)

/-- 'headgatelaw13.CoordNone': WHATEVER THE INPUT: true; the input reads as it did. -/
def coordNoneSpec : ChangeSpec := { name := "coordNone", fn := fun _ => fun
  | [d1, d2, d3, d4] => { results := [.lit (.bool true)], args := [d1, d2, d3, d4] }
  | _ => none }
def coordNoneRow : OpenClaim := { program := "ytbnefpdjcbegpaagreatdoor", sum := "6fac0850870de12798ef6c8bf4f07870cedff9a24608b17fcb60602079a2b170", func := "headgate/headgatelaw13.CoordNone", spec := "coordNone", inPlace := ["internal/bytealg.IndexByteString", "internal/bytealg.IndexString", "slices.overlaps[headgate/api.Trans]", "internal/abi.NoEscape", "internal/bytealg.MakeNoZero"], unfollowed := true, recurses := true, named := ["unicode/utf8.first", "unicode/utf8.acceptRanges", "internal/bytealg.MaxLen"], apart := false, laid := [("unicode/utf8.acceptRanges", laid_unicode_utf8_acceptRanges), ("unicode/utf8.first", laid_unicode_utf8_first)] }
def CoordNoneSaid : Prop := coordNoneRow.holds Tryz.pinned (OpenSpec.ofChange coordNoneSpec)

/-- ITS FALSE NEIGHBOUR: 'it returns false'. Refute it at one input. -/
def coordNoneWrong : ChangeSpec := { name := "coordNone", fn := fun _ => fun
  | [d1, d2, d3, d4] => { results := [.lit (.bool false)], args := [d1, d2, d3, d4] }
  | _ => none }
def CoordNoneWrongFalsely : Prop := coordNoneRow.holds Tryz.pinned (OpenSpec.ofChange coordNoneWrong)

/-- 'headgatelaw13.CoordEnds': WHATEVER THE INPUT: true; the input reads as it did. -/
def coordEndsSpec : ChangeSpec := { name := "coordEnds", fn := fun _ => fun
  | [d1, d2, d3, d4] => { results := [.lit (.bool true)], args := [d1, d2, d3, d4] }
  | _ => none }
def coordEndsRow : OpenClaim := { program := "ytbnefpdjcbegpaagreatdoor", sum := "6fac0850870de12798ef6c8bf4f07870cedff9a24608b17fcb60602079a2b170", func := "headgate/headgatelaw13.CoordEnds", spec := "coordEnds", inPlace := ["internal/bytealg.IndexByteString", "internal/bytealg.IndexString", "slices.overlaps[headgate/api.Trans]", "internal/abi.NoEscape", "internal/bytealg.MakeNoZero"], unfollowed := true, recurses := true, named := ["unicode/utf8.first", "unicode/utf8.acceptRanges", "internal/bytealg.MaxLen"], apart := false, laid := [("unicode/utf8.acceptRanges", laid_unicode_utf8_acceptRanges), ("unicode/utf8.first", laid_unicode_utf8_first)] }
def CoordEndsSaid : Prop := coordEndsRow.holds Tryz.pinned (OpenSpec.ofChange coordEndsSpec)

/-- ITS FALSE NEIGHBOUR: 'it returns false'. Refute it at one input. -/
def coordEndsWrong : ChangeSpec := { name := "coordEnds", fn := fun _ => fun
  | [d1, d2, d3, d4] => { results := [.lit (.bool false)], args := [d1, d2, d3, d4] }
  | _ => none }
def CoordEndsWrongFalsely : Prop := coordEndsRow.holds Tryz.pinned (OpenSpec.ofChange coordEndsWrong)

/- THE SECOND FORM. 'bulk': how many values and letters a reading holds, each counted each time it is reached (what is shared counts as often as it is met; a slice's spare places count too). A statement '..UptoSaid' is the law's where the arguments, and the package variables that the reading takes, are together of bulk at most 1048576: NARROWER than '..Said'. Prove '..Said' where nothing that the law and all that it calls make is longer than what came in: it says more and counts as full. Else prove '..UptoSaid'. A law counts once. -/
mutual
def uptoBulk {H : Type} : DataW H → Nat
  | .lit (.string bytes) => bytes.length + 1
  | .lit _ => 1
  | .nil => 1
  | .ptr d => uptoBulk d + 1
  | .slice elems spare => uptoBulkAll elems + uptoBulkAll spare + 1
  | .agg parts => uptoBulkAll parts + 1
  | .iface _ d => uptoBulk d + 1
  | .map entries => uptoBulkEntries entries + 1
  | .held _ => 1
def uptoBulkAll {H : Type} : List (DataW H) → Nat
  | [] => 0
  | d :: r => uptoBulk d + uptoBulkAll r
def uptoBulkEntries {H : Type} : List (Lit × DataW H) → Nat
  | [] => 0
  | x :: r => uptoBulkEntry x + uptoBulkEntries r
def uptoBulkEntry {H : Type} : Lit × DataW H → Nat
  | (.string bytes, d) => bytes.length + uptoBulk d + 1
  | (_, d) => uptoBulk d + 1
 end
def uptoSmall : (H : Type) → List (DataW H) → Bool := fun _ ds => decide (uptoBulkAll ds ≤ 1048576)
def OpenSpec.upto (s : _root_.Go.ChangeSpec) : _root_.Go.OpenSpec := { _root_.Go.OpenSpec.ofChange s with cond := some uptoSmall }

/-- 'headgatelaw13.CoordExpires', WHERE WHAT IT READS IS OF BULK AT MOST 1048576: true; the input reads as it did. -/
def coordExpiresUptoRow : OpenClaim := { program := "ytbnefpdjcbegpaagreatdoor", sum := "6fac0850870de12798ef6c8bf4f07870cedff9a24608b17fcb60602079a2b170", func := "headgate/headgatelaw13.CoordExpires", spec := "coordExpires", inPlace := ["internal/bytealg.IndexByteString", "internal/bytealg.IndexString", "slices.overlaps[headgate/api.Trans]", "internal/abi.NoEscape", "internal/bytealg.MakeNoZero"], unfollowed := true, recurses := true, named := ["unicode/utf8.first", "unicode/utf8.acceptRanges", "internal/bytealg.MaxLen"], apart := false, laid := [("unicode/utf8.acceptRanges", laid_unicode_utf8_acceptRanges), ("unicode/utf8.first", laid_unicode_utf8_first)], narrowed := true }
def CoordExpiresUptoSaid : Prop := coordExpiresUptoRow.holds Tryz.pinned (OpenSpec.upto coordExpiresSpec)

/-- 'headgatelaw13.CoordFences', WHERE WHAT IT READS IS OF BULK AT MOST 1048576: true; the input reads as it did. -/
def coordFencesUptoRow : OpenClaim := { program := "ytbnefpdjcbegpaagreatdoor", sum := "6fac0850870de12798ef6c8bf4f07870cedff9a24608b17fcb60602079a2b170", func := "headgate/headgatelaw13.CoordFences", spec := "coordFences", inPlace := ["internal/bytealg.IndexByteString", "internal/bytealg.IndexString", "slices.overlaps[headgate/api.Trans]", "internal/abi.NoEscape", "internal/bytealg.MakeNoZero"], unfollowed := true, recurses := true, named := ["unicode/utf8.first", "unicode/utf8.acceptRanges", "internal/bytealg.MaxLen"], apart := false, laid := [("unicode/utf8.acceptRanges", laid_unicode_utf8_acceptRanges), ("unicode/utf8.first", laid_unicode_utf8_first)], narrowed := true }
def CoordFencesUptoSaid : Prop := coordFencesUptoRow.holds Tryz.pinned (OpenSpec.upto coordFencesSpec)

/-- 'headgatelaw13.CoordLasts', WHERE WHAT IT READS IS OF BULK AT MOST 1048576: true; the input reads as it did. -/
def coordLastsUptoRow : OpenClaim := { program := "ytbnefpdjcbegpaagreatdoor", sum := "6fac0850870de12798ef6c8bf4f07870cedff9a24608b17fcb60602079a2b170", func := "headgate/headgatelaw13.CoordLasts", spec := "coordLasts", inPlace := ["internal/bytealg.IndexByteString", "internal/bytealg.IndexString", "slices.overlaps[headgate/api.Trans]", "internal/abi.NoEscape", "internal/bytealg.MakeNoZero"], unfollowed := true, recurses := true, named := ["unicode/utf8.first", "unicode/utf8.acceptRanges", "internal/bytealg.MaxLen"], apart := false, laid := [("unicode/utf8.acceptRanges", laid_unicode_utf8_acceptRanges), ("unicode/utf8.first", laid_unicode_utf8_first)], narrowed := true }
def CoordLastsUptoSaid : Prop := coordLastsUptoRow.holds Tryz.pinned (OpenSpec.upto coordLastsSpec)

/-- 'headgatelaw13.CoordRebuilt', WHERE WHAT IT READS IS OF BULK AT MOST 1048576: true; the input reads as it did. -/
def coordRebuiltUptoRow : OpenClaim := { program := "ytbnefpdjcbegpaagreatdoor", sum := "6fac0850870de12798ef6c8bf4f07870cedff9a24608b17fcb60602079a2b170", func := "headgate/headgatelaw13.CoordRebuilt", spec := "coordRebuilt", inPlace := ["internal/bytealg.IndexByteString", "internal/bytealg.IndexString", "slices.overlaps[headgate/api.Trans]", "internal/abi.NoEscape", "internal/bytealg.MakeNoZero"], unfollowed := true, recurses := true, named := ["unicode/utf8.first", "unicode/utf8.acceptRanges", "internal/bytealg.MaxLen"], apart := false, laid := [("unicode/utf8.acceptRanges", laid_unicode_utf8_acceptRanges), ("unicode/utf8.first", laid_unicode_utf8_first)], narrowed := true }
def CoordRebuiltUptoSaid : Prop := coordRebuiltUptoRow.holds Tryz.pinned (OpenSpec.upto coordRebuiltSpec)

/-- 'headgatelaw13.CoordNone', WHERE WHAT IT READS IS OF BULK AT MOST 1048576: true; the input reads as it did. -/
def coordNoneUptoRow : OpenClaim := { program := "ytbnefpdjcbegpaagreatdoor", sum := "6fac0850870de12798ef6c8bf4f07870cedff9a24608b17fcb60602079a2b170", func := "headgate/headgatelaw13.CoordNone", spec := "coordNone", inPlace := ["internal/bytealg.IndexByteString", "internal/bytealg.IndexString", "slices.overlaps[headgate/api.Trans]", "internal/abi.NoEscape", "internal/bytealg.MakeNoZero"], unfollowed := true, recurses := true, named := ["unicode/utf8.first", "unicode/utf8.acceptRanges", "internal/bytealg.MaxLen"], apart := false, laid := [("unicode/utf8.acceptRanges", laid_unicode_utf8_acceptRanges), ("unicode/utf8.first", laid_unicode_utf8_first)], narrowed := true }
def CoordNoneUptoSaid : Prop := coordNoneUptoRow.holds Tryz.pinned (OpenSpec.upto coordNoneSpec)

/-- 'headgatelaw13.CoordEnds', WHERE WHAT IT READS IS OF BULK AT MOST 1048576: true; the input reads as it did. -/
def coordEndsUptoRow : OpenClaim := { program := "ytbnefpdjcbegpaagreatdoor", sum := "6fac0850870de12798ef6c8bf4f07870cedff9a24608b17fcb60602079a2b170", func := "headgate/headgatelaw13.CoordEnds", spec := "coordEnds", inPlace := ["internal/bytealg.IndexByteString", "internal/bytealg.IndexString", "slices.overlaps[headgate/api.Trans]", "internal/abi.NoEscape", "internal/bytealg.MakeNoZero"], unfollowed := true, recurses := true, named := ["unicode/utf8.first", "unicode/utf8.acceptRanges", "internal/bytealg.MaxLen"], apart := false, laid := [("unicode/utf8.acceptRanges", laid_unicode_utf8_acceptRanges), ("unicode/utf8.first", laid_unicode_utf8_first)], narrowed := true }
def CoordEndsUptoSaid : Prop := coordEndsUptoRow.holds Tryz.pinned (OpenSpec.upto coordEndsSpec)

end Rows
end Go.Proofs.YtbnefpdjcbegpaaGreatDoor
