/-
  NARROWER THAN 'FOR EVERY INPUT', by the rows' own cells (each row's printed sentence says how): PartCommitted: laid · PartStable: laid · PartMarks: laid · PartNone: laid · PartLasts: laid · PartOnce: laid · PartRebuilt: laid.
  DERIVED. THE GIVEN ROWS OF THIS SEAT. 7 by the template 'for every input the law returns true; each argument reads behind the call as it read before'; 0 by the template 'total and deterministic' (their statements: YtgjkjkeeblbjlaaGreatDoorTotals.lean).
  GIVEN WITH THE SEED: the statements are not yours to turn. If you find one false, say at which input.
  Laid BY PROGRAM, IN A SANDBOX (cutbox-rows.mjs): the forced cells as the released guide's own fill.sh prints them over the translation 58cdc32e5ceffc2d… (all of the seat's roots in one cut). By AI agents, Wed Nov 11 2026. No macro, syntax, notation, axiom, sorry.
-/
import Derived.Test.YtgjkjkeeblbjlaaGreatDoorChecked
import GoSem.PinnedTables
import GoSem.Claim
import GoSem.ClaimJoined
import GoSem.ClaimMapViews
import Derived.JoinedTies
import Derived.KernelRfl
namespace Go.Proofs.YtgjkjkeeblbjlaaGreatDoor
/- THE CELL 'sum', in the pinned program and in every row, IS THE sha256 OF THE DUMP (.gsa) THAT YtgjkjkeeblbjlaaGreatDoorProg.lean LOADS. Nothing in Lean hashes anything: it is a label: what it is worth is what the hold of that sum in a sandbox is worth. -/
noncomputable def Tryz.pinned : Pinned := { name := "ytgjkjkeeblbjlaagreatdoor", sum := "58cdc32e5ceffc2df9a993b867c5b6a6df5d35b94af1ccc1b5551441a60f025c", checked := Tryz.checked }
namespace Rows
def none {H : Type} : Left H := { results := [], args := [] }

/- WHAT THE LISTED PACKAGE-LEVEL VARIABLES READ AS WHEN THE CALL BEGINS. Each datum BY PROGRAM (the guide's laid-datum.mjs) off the statement by which the dump's own 'gosem.cut.vars' lays the variable. In a bare row this is a premise. The card (YtgjkjkeeblbjlaaGreatDoorCards.lean) ties it to the program's text. -/
def laid_unicode_utf8_acceptRanges {H : Type} : DataW H := .agg [.agg [.lit (.int .u8 128), .lit (.int .u8 191)], .agg [.lit (.int .u8 160), .lit (.int .u8 191)], .agg [.lit (.int .u8 128), .lit (.int .u8 159)], .agg [.lit (.int .u8 144), .lit (.int .u8 191)], .agg [.lit (.int .u8 128), .lit (.int .u8 143)], .agg [.lit (.int .u8 0), .lit (.int .u8 0)], .agg [.lit (.int .u8 0), .lit (.int .u8 0)], .agg [.lit (.int .u8 0), .lit (.int .u8 0)], .agg [.lit (.int .u8 0), .lit (.int .u8 0)], .agg [.lit (.int .u8 0), .lit (.int .u8 0)], .agg [.lit (.int .u8 0), .lit (.int .u8 0)], .agg [.lit (.int .u8 0), .lit (.int .u8 0)], .agg [.lit (.int .u8 0), .lit (.int .u8 0)], .agg [.lit (.int .u8 0), .lit (.int .u8 0)], .agg [.lit (.int .u8 0), .lit (.int .u8 0)], .agg [.lit (.int .u8 0), .lit (.int .u8 0)]]
/-- One of Go's own tables, pinned by name: the form's constant. -/
def laid_unicode_utf8_first : DataW Unit := Go.Pinned.utf8First

/-- 'headgatelaw08.PartCommitted': WHATEVER THE INPUT: true; the input reads as it did. -/
def partCommittedSpec : ChangeSpec := { name := "partCommitted", fn := fun _ => fun
  | [d1, d2] => { results := [.lit (.bool true)], args := [d1, d2] }
  | _ => none }
def partCommittedRow : OpenClaim := { program := "ytgjkjkeeblbjlaagreatdoor", sum := "58cdc32e5ceffc2df9a993b867c5b6a6df5d35b94af1ccc1b5551441a60f025c", func := "headgate/headgatelaw08.PartCommitted", spec := "partCommitted", inPlace := ["internal/bytealg.IndexByteString", "internal/bytealg.IndexString", "slices.overlaps[headgate/api.Prod]", "internal/abi.NoEscape", "internal/bytealg.MakeNoZero"], unfollowed := true, recurses := true, named := ["unicode/utf8.first", "unicode/utf8.acceptRanges", "internal/bytealg.MaxLen"], apart := false, laid := [("unicode/utf8.acceptRanges", laid_unicode_utf8_acceptRanges), ("unicode/utf8.first", laid_unicode_utf8_first)] }
def PartCommittedSaid : Prop := partCommittedRow.holds Tryz.pinned (OpenSpec.ofChange partCommittedSpec)

/-- ITS FALSE NEIGHBOUR: 'it returns false'. Refute it at one input. -/
def partCommittedWrong : ChangeSpec := { name := "partCommitted", fn := fun _ => fun
  | [d1, d2] => { results := [.lit (.bool false)], args := [d1, d2] }
  | _ => none }
def PartCommittedWrongFalsely : Prop := partCommittedRow.holds Tryz.pinned (OpenSpec.ofChange partCommittedWrong)

/-- 'headgatelaw08.PartStable': WHATEVER THE INPUT: true; the input reads as it did. -/
def partStableSpec : ChangeSpec := { name := "partStable", fn := fun _ => fun
  | [d] => { results := [.lit (.bool true)], args := [d] }
  | _ => none }
def partStableRow : OpenClaim := { program := "ytgjkjkeeblbjlaagreatdoor", sum := "58cdc32e5ceffc2df9a993b867c5b6a6df5d35b94af1ccc1b5551441a60f025c", func := "headgate/headgatelaw08.PartStable", spec := "partStable", inPlace := ["internal/bytealg.IndexByteString", "internal/bytealg.IndexString", "slices.overlaps[headgate/api.Prod]", "internal/abi.NoEscape", "internal/bytealg.MakeNoZero"], unfollowed := true, recurses := true, named := ["unicode/utf8.first", "unicode/utf8.acceptRanges", "internal/bytealg.MaxLen"], apart := false, laid := [("unicode/utf8.acceptRanges", laid_unicode_utf8_acceptRanges), ("unicode/utf8.first", laid_unicode_utf8_first)] }
def PartStableSaid : Prop := partStableRow.holds Tryz.pinned (OpenSpec.ofChange partStableSpec)

/-- ITS FALSE NEIGHBOUR: 'it returns false'. Refute it at one input. -/
def partStableWrong : ChangeSpec := { name := "partStable", fn := fun _ => fun
  | [d] => { results := [.lit (.bool false)], args := [d] }
  | _ => none }
def PartStableWrongFalsely : Prop := partStableRow.holds Tryz.pinned (OpenSpec.ofChange partStableWrong)

/-- 'headgatelaw08.PartMarks': WHATEVER THE INPUT: true; the input reads as it did. -/
def partMarksSpec : ChangeSpec := { name := "partMarks", fn := fun _ => fun
  | [d1, d2, d3, d4, d5] => { results := [.lit (.bool true)], args := [d1, d2, d3, d4, d5] }
  | _ => none }
def partMarksRow : OpenClaim := { program := "ytgjkjkeeblbjlaagreatdoor", sum := "58cdc32e5ceffc2df9a993b867c5b6a6df5d35b94af1ccc1b5551441a60f025c", func := "headgate/headgatelaw08.PartMarks", spec := "partMarks", inPlace := ["internal/bytealg.IndexByteString", "internal/bytealg.IndexString", "slices.overlaps[headgate/api.Prod]", "internal/abi.NoEscape", "internal/bytealg.MakeNoZero"], unfollowed := true, recurses := true, named := ["unicode/utf8.first", "unicode/utf8.acceptRanges", "internal/bytealg.MaxLen"], apart := false, laid := [("unicode/utf8.acceptRanges", laid_unicode_utf8_acceptRanges), ("unicode/utf8.first", laid_unicode_utf8_first)] }
def PartMarksSaid : Prop := partMarksRow.holds Tryz.pinned (OpenSpec.ofChange partMarksSpec)

/-- ITS FALSE NEIGHBOUR: 'it returns false'. Refute it at one input. -/
def partMarksWrong : ChangeSpec := { name := "partMarks", fn := fun _ => fun
  | [d1, d2, d3, d4, d5] => { results := [.lit (.bool false)], args := [d1, d2, d3, d4, d5] }
  | _ => none }
def PartMarksWrongFalsely : Prop := partMarksRow.holds Tryz.pinned (OpenSpec.ofChange partMarksWrong)

/-- 'headgatelaw08.PartNone': WHATEVER THE INPUT: true; the input reads as it did. -/
def partNoneSpec : ChangeSpec := { name := "partNone", fn := fun _ => fun
  | [d1, d2, d3] => { results := [.lit (.bool true)], args := [d1, d2, d3] }
  | _ => none }
def partNoneRow : OpenClaim := { program := "ytgjkjkeeblbjlaagreatdoor", sum := "58cdc32e5ceffc2df9a993b867c5b6a6df5d35b94af1ccc1b5551441a60f025c", func := "headgate/headgatelaw08.PartNone", spec := "partNone", inPlace := ["internal/bytealg.IndexByteString", "internal/bytealg.IndexString", "slices.overlaps[headgate/api.Prod]", "internal/abi.NoEscape", "internal/bytealg.MakeNoZero"], unfollowed := true, recurses := true, named := ["unicode/utf8.first", "unicode/utf8.acceptRanges", "internal/bytealg.MaxLen"], apart := false, laid := [("unicode/utf8.acceptRanges", laid_unicode_utf8_acceptRanges), ("unicode/utf8.first", laid_unicode_utf8_first)] }
def PartNoneSaid : Prop := partNoneRow.holds Tryz.pinned (OpenSpec.ofChange partNoneSpec)

/-- ITS FALSE NEIGHBOUR: 'it returns false'. Refute it at one input. -/
def partNoneWrong : ChangeSpec := { name := "partNone", fn := fun _ => fun
  | [d1, d2, d3] => { results := [.lit (.bool false)], args := [d1, d2, d3] }
  | _ => none }
def PartNoneWrongFalsely : Prop := partNoneRow.holds Tryz.pinned (OpenSpec.ofChange partNoneWrong)

/-- 'headgatelaw08.PartLasts': WHATEVER THE INPUT: true; the input reads as it did. -/
def partLastsSpec : ChangeSpec := { name := "partLasts", fn := fun _ => fun
  | [d1, d2, d3, d4] => { results := [.lit (.bool true)], args := [d1, d2, d3, d4] }
  | _ => none }
def partLastsRow : OpenClaim := { program := "ytgjkjkeeblbjlaagreatdoor", sum := "58cdc32e5ceffc2df9a993b867c5b6a6df5d35b94af1ccc1b5551441a60f025c", func := "headgate/headgatelaw08.PartLasts", spec := "partLasts", inPlace := ["internal/bytealg.IndexByteString", "internal/bytealg.IndexString", "slices.overlaps[headgate/api.Prod]", "internal/abi.NoEscape", "internal/bytealg.MakeNoZero"], unfollowed := true, recurses := true, named := ["unicode/utf8.first", "unicode/utf8.acceptRanges", "internal/bytealg.MaxLen"], apart := false, laid := [("unicode/utf8.acceptRanges", laid_unicode_utf8_acceptRanges), ("unicode/utf8.first", laid_unicode_utf8_first)] }
def PartLastsSaid : Prop := partLastsRow.holds Tryz.pinned (OpenSpec.ofChange partLastsSpec)

/-- ITS FALSE NEIGHBOUR: 'it returns false'. Refute it at one input. -/
def partLastsWrong : ChangeSpec := { name := "partLasts", fn := fun _ => fun
  | [d1, d2, d3, d4] => { results := [.lit (.bool false)], args := [d1, d2, d3, d4] }
  | _ => none }
def PartLastsWrongFalsely : Prop := partLastsRow.holds Tryz.pinned (OpenSpec.ofChange partLastsWrong)

/-- 'headgatelaw08.PartOnce': WHATEVER THE INPUT: true; the input reads as it did. -/
def partOnceSpec : ChangeSpec := { name := "partOnce", fn := fun _ => fun
  | [d1, d2, d3] => { results := [.lit (.bool true)], args := [d1, d2, d3] }
  | _ => none }
def partOnceRow : OpenClaim := { program := "ytgjkjkeeblbjlaagreatdoor", sum := "58cdc32e5ceffc2df9a993b867c5b6a6df5d35b94af1ccc1b5551441a60f025c", func := "headgate/headgatelaw08.PartOnce", spec := "partOnce", inPlace := ["internal/bytealg.IndexByteString", "internal/bytealg.IndexString", "slices.overlaps[headgate/api.Prod]", "internal/abi.NoEscape", "internal/bytealg.MakeNoZero"], unfollowed := true, recurses := true, named := ["unicode/utf8.first", "unicode/utf8.acceptRanges", "internal/bytealg.MaxLen"], apart := false, laid := [("unicode/utf8.acceptRanges", laid_unicode_utf8_acceptRanges), ("unicode/utf8.first", laid_unicode_utf8_first)] }
def PartOnceSaid : Prop := partOnceRow.holds Tryz.pinned (OpenSpec.ofChange partOnceSpec)

/-- ITS FALSE NEIGHBOUR: 'it returns false'. Refute it at one input. -/
def partOnceWrong : ChangeSpec := { name := "partOnce", fn := fun _ => fun
  | [d1, d2, d3] => { results := [.lit (.bool false)], args := [d1, d2, d3] }
  | _ => none }
def PartOnceWrongFalsely : Prop := partOnceRow.holds Tryz.pinned (OpenSpec.ofChange partOnceWrong)

/-- 'headgatelaw08.PartRebuilt': WHATEVER THE INPUT: true; the input reads as it did. -/
def partRebuiltSpec : ChangeSpec := { name := "partRebuilt", fn := fun _ => fun
  | [d1, d2] => { results := [.lit (.bool true)], args := [d1, d2] }
  | _ => none }
def partRebuiltRow : OpenClaim := { program := "ytgjkjkeeblbjlaagreatdoor", sum := "58cdc32e5ceffc2df9a993b867c5b6a6df5d35b94af1ccc1b5551441a60f025c", func := "headgate/headgatelaw08.PartRebuilt", spec := "partRebuilt", inPlace := ["internal/bytealg.IndexByteString", "internal/bytealg.IndexString", "slices.overlaps[headgate/api.Prod]", "internal/abi.NoEscape", "internal/bytealg.MakeNoZero"], unfollowed := true, recurses := true, named := ["unicode/utf8.first", "unicode/utf8.acceptRanges", "internal/bytealg.MaxLen"], apart := false, laid := [("unicode/utf8.acceptRanges", laid_unicode_utf8_acceptRanges), ("unicode/utf8.first", laid_unicode_utf8_first)] }
def PartRebuiltSaid : Prop := partRebuiltRow.holds Tryz.pinned (OpenSpec.ofChange partRebuiltSpec)

/-- ITS FALSE NEIGHBOUR: 'it returns false'. Refute it at one input. -/
def partRebuiltWrong : ChangeSpec := { name := "partRebuilt", fn := fun _ => fun
  | [d1, d2] => { results := [.lit (.bool false)], args := [d1, d2] }
  | _ => none }
def PartRebuiltWrongFalsely : Prop := partRebuiltRow.holds Tryz.pinned (OpenSpec.ofChange partRebuiltWrong)

/- THE SECOND FORM. 'bulk': how many values and letters a reading holds, each counted each time it is reached (what is shared counts as often as it is met; a slice's spare places count too). A statement '..UptoSaid' is the law's where the arguments, and the package variables that the reading takes, are together of bulk at most 1048576: NARROWER than '..Said'. Prove '..Said' where nothing that the law and all that it calls make is longer than what came in: it says more and counts as full. Else prove '..UptoSaid'. A law counts once. -/
mutual
def uptoBulk {H : Type} : DataW H → Nat
  | .lit (.string bytes) => bytes.length + 1
  | .lit _ => 1
  | .nil => 1
  | .ptr d => uptoBulk d + 1
  | .slice elems spare => uptoBulkAll elems + uptoBulkAll spare + 1
  | .agg parts => uptoBulkAll parts + 1
  | .iface _ d => uptoBulk d + 1
  | .map entries => uptoBulkEntries entries + 1
  | .held _ => 1
def uptoBulkAll {H : Type} : List (DataW H) → Nat
  | [] => 0
  | d :: r => uptoBulk d + uptoBulkAll r
def uptoBulkEntries {H : Type} : List (Lit × DataW H) → Nat
  | [] => 0
  | x :: r => uptoBulkEntry x + uptoBulkEntries r
def uptoBulkEntry {H : Type} : Lit × DataW H → Nat
  | (.string bytes, d) => bytes.length + uptoBulk d + 1
  | (_, d) => uptoBulk d + 1
 end
def uptoSmall : (H : Type) → List (DataW H) → Bool := fun _ ds => decide (uptoBulkAll ds ≤ 1048576)
def OpenSpec.upto (s : _root_.Go.ChangeSpec) : _root_.Go.OpenSpec := { _root_.Go.OpenSpec.ofChange s with cond := some uptoSmall }

/-- 'headgatelaw08.PartCommitted', WHERE WHAT IT READS IS OF BULK AT MOST 1048576: true; the input reads as it did. -/
def partCommittedUptoRow : OpenClaim := { program := "ytgjkjkeeblbjlaagreatdoor", sum := "58cdc32e5ceffc2df9a993b867c5b6a6df5d35b94af1ccc1b5551441a60f025c", func := "headgate/headgatelaw08.PartCommitted", spec := "partCommitted", inPlace := ["internal/bytealg.IndexByteString", "internal/bytealg.IndexString", "slices.overlaps[headgate/api.Prod]", "internal/abi.NoEscape", "internal/bytealg.MakeNoZero"], unfollowed := true, recurses := true, named := ["unicode/utf8.first", "unicode/utf8.acceptRanges", "internal/bytealg.MaxLen"], apart := false, laid := [("unicode/utf8.acceptRanges", laid_unicode_utf8_acceptRanges), ("unicode/utf8.first", laid_unicode_utf8_first)], narrowed := true }
def PartCommittedUptoSaid : Prop := partCommittedUptoRow.holds Tryz.pinned (OpenSpec.upto partCommittedSpec)

/-- 'headgatelaw08.PartStable', WHERE WHAT IT READS IS OF BULK AT MOST 1048576: true; the input reads as it did. -/
def partStableUptoRow : OpenClaim := { program := "ytgjkjkeeblbjlaagreatdoor", sum := "58cdc32e5ceffc2df9a993b867c5b6a6df5d35b94af1ccc1b5551441a60f025c", func := "headgate/headgatelaw08.PartStable", spec := "partStable", inPlace := ["internal/bytealg.IndexByteString", "internal/bytealg.IndexString", "slices.overlaps[headgate/api.Prod]", "internal/abi.NoEscape", "internal/bytealg.MakeNoZero"], unfollowed := true, recurses := true, named := ["unicode/utf8.first", "unicode/utf8.acceptRanges", "internal/bytealg.MaxLen"], apart := false, laid := [("unicode/utf8.acceptRanges", laid_unicode_utf8_acceptRanges), ("unicode/utf8.first", laid_unicode_utf8_first)], narrowed := true }
def PartStableUptoSaid : Prop := partStableUptoRow.holds Tryz.pinned (OpenSpec.upto partStableSpec)

/-- 'headgatelaw08.PartMarks', WHERE WHAT IT READS IS OF BULK AT MOST 1048576: true; the input reads as it did. -/
def partMarksUptoRow : OpenClaim := { program := "ytgjkjkeeblbjlaagreatdoor", sum := "58cdc32e5ceffc2df9a993b867c5b6a6df5d35b94af1ccc1b5551441a60f025c", func := "headgate/headgatelaw08.PartMarks", spec := "partMarks", inPlace := ["internal/bytealg.IndexByteString", "internal/bytealg.IndexString", "slices.overlaps[headgate/api.Prod]", "internal/abi.NoEscape", "internal/bytealg.MakeNoZero"], unfollowed := true, recurses := true, named := ["unicode/utf8.first", "unicode/utf8.acceptRanges", "internal/bytealg.MaxLen"], apart := false, laid := [("unicode/utf8.acceptRanges", laid_unicode_utf8_acceptRanges), ("unicode/utf8.first", laid_unicode_utf8_first)], narrowed := true }
def PartMarksUptoSaid : Prop := partMarksUptoRow.holds Tryz.pinned (OpenSpec.upto partMarksSpec)

/-- 'headgatelaw08.PartNone', WHERE WHAT IT READS IS OF BULK AT MOST 1048576: true; the input reads as it did. -/
def partNoneUptoRow : OpenClaim := { program := "ytgjkjkeeblbjlaagreatdoor", sum := "58cdc32e5ceffc2df9a993b867c5b6a6df5d35b94af1ccc1b5551441a60f025c", func := "headgate/headgatelaw08.PartNone", spec := "partNone", inPlace := ["internal/bytealg.IndexByteString", "internal/bytealg.IndexString", "slices.overlaps[headgate/api.Prod]", "internal/abi.NoEscape", "internal/bytealg.MakeNoZero"], unfollowed := true, recurses := true, named := ["unicode/utf8.first", "unicode/utf8.acceptRanges", "internal/bytealg.MaxLen"], apart := false, laid := [("unicode/utf8.acceptRanges", laid_unicode_utf8_acceptRanges), ("unicode/utf8.first", laid_unicode_utf8_first)], narrowed := true }
def PartNoneUptoSaid : Prop := partNoneUptoRow.holds Tryz.pinned (OpenSpec.upto partNoneSpec)

/-- 'headgatelaw08.PartLasts', WHERE WHAT IT READS IS OF BULK AT MOST 1048576: true; the input reads as it did. -/
def partLastsUptoRow : OpenClaim := { program := "ytgjkjkeeblbjlaagreatdoor", sum := "58cdc32e5ceffc2df9a993b867c5b6a6df5d35b94af1ccc1b5551441a60f025c", func := "headgate/headgatelaw08.PartLasts", spec := "partLasts", inPlace := ["internal/bytealg.IndexByteString", "internal/bytealg.IndexString", "slices.overlaps[headgate/api.Prod]", "internal/abi.NoEscape", "internal/bytealg.MakeNoZero"], unfollowed := true, recurses := true, named := ["unicode/utf8.first", "unicode/utf8.acceptRanges", "internal/bytealg.MaxLen"], apart := false, laid := [("unicode/utf8.acceptRanges", laid_unicode_utf8_acceptRanges), ("unicode/utf8.first", laid_unicode_utf8_first)], narrowed := true }
def PartLastsUptoSaid : Prop := partLastsUptoRow.holds Tryz.pinned (OpenSpec.upto partLastsSpec)

/-- 'headgatelaw08.PartOnce', WHERE WHAT IT READS IS OF BULK AT MOST 1048576: true; the input reads as it did. -/
def partOnceUptoRow : OpenClaim := { program := "ytgjkjkeeblbjlaagreatdoor", sum := "58cdc32e5ceffc2df9a993b867c5b6a6df5d35b94af1ccc1b5551441a60f025c", func := "headgate/headgatelaw08.PartOnce", spec := "partOnce", inPlace := ["internal/bytealg.IndexByteString", "internal/bytealg.IndexString", "slices.overlaps[headgate/api.Prod]", "internal/abi.NoEscape", "internal/bytealg.MakeNoZero"], unfollowed := true, recurses := true, named := ["unicode/utf8.first", "unicode/utf8.acceptRanges", "internal/bytealg.MaxLen"], apart := false, laid := [("unicode/utf8.acceptRanges", laid_unicode_utf8_acceptRanges), ("unicode/utf8.first", laid_unicode_utf8_first)], narrowed := true }
def PartOnceUptoSaid : Prop := partOnceUptoRow.holds Tryz.pinned (OpenSpec.upto partOnceSpec)

/-- 'headgatelaw08.PartRebuilt', WHERE WHAT IT READS IS OF BULK AT MOST 1048576: true; the input reads as it did. -/
def partRebuiltUptoRow : OpenClaim := { program := "ytgjkjkeeblbjlaagreatdoor", sum := "58cdc32e5ceffc2df9a993b867c5b6a6df5d35b94af1ccc1b5551441a60f025c", func := "headgate/headgatelaw08.PartRebuilt", spec := "partRebuilt", inPlace := ["internal/bytealg.IndexByteString", "internal/bytealg.IndexString", "slices.overlaps[headgate/api.Prod]", "internal/abi.NoEscape", "internal/bytealg.MakeNoZero"], unfollowed := true, recurses := true, named := ["unicode/utf8.first", "unicode/utf8.acceptRanges", "internal/bytealg.MaxLen"], apart := false, laid := [("unicode/utf8.acceptRanges", laid_unicode_utf8_acceptRanges), ("unicode/utf8.first", laid_unicode_utf8_first)], narrowed := true }
def PartRebuiltUptoSaid : Prop := partRebuiltUptoRow.holds Tryz.pinned (OpenSpec.upto partRebuiltSpec)

end Rows
end Go.Proofs.YtgjkjkeeblbjlaaGreatDoor
