/-
  NARROWER THAN 'FOR EVERY INPUT', by the rows' own cells (each row's printed sentence says how): LogPlays: laid · OffsetsWait: laid · OffsetsRise: laid · OffsetsNone: laid · OffsetsLast: laid · OffsetsPlay: laid.
  DERIVED. THE GIVEN ROWS OF THIS SEAT. 6 by the template 'for every input the law returns true; each argument reads behind the call as it read before'; 0 by the template 'total and deterministic' (their statements: YtjodkcjlipecdaaGreatDoorTotals.lean).
  GIVEN WITH THE SEED: the statements are not yours to turn. If you find one false, say at which input.
  Laid BY PROGRAM, IN A SANDBOX (cutbox-rows.mjs): the forced cells as the released guide's own fill.sh prints them over the translation 514f6c97d851d308… (all of the seat's roots in one cut). By AI agents, Wed Nov 11 2026. No macro, syntax, notation, axiom, sorry.
-/
import Derived.Test.YtjodkcjlipecdaaGreatDoorChecked
import GoSem.PinnedTables
import GoSem.Claim
import GoSem.ClaimJoined
import GoSem.ClaimMapViews
import Derived.JoinedTies
import Derived.KernelRfl
namespace Go.Proofs.YtjodkcjlipecdaaGreatDoor
/- THE CELL 'sum', in the pinned program and in every row, IS THE sha256 OF THE DUMP (.gsa) THAT YtjodkcjlipecdaaGreatDoorProg.lean LOADS. Nothing in Lean hashes anything: it is a label: what it is worth is what the hold of that sum in a sandbox is worth. -/
noncomputable def Tryz.pinned : Pinned := { name := "ytjodkcjlipecdaagreatdoor", sum := "514f6c97d851d3080aa827c55ef8b0b3edb69376f4496d1f56c8c9044d43f5b0", checked := Tryz.checked }
namespace Rows
def none {H : Type} : Left H := { results := [], args := [] }

/- WHAT THE LISTED PACKAGE-LEVEL VARIABLES READ AS WHEN THE CALL BEGINS. Each datum BY PROGRAM (the guide's laid-datum.mjs) off the statement by which the dump's own 'gosem.cut.vars' lays the variable. In a bare row this is a premise. The card (YtjodkcjlipecdaaGreatDoorCards.lean) ties it to the program's text. -/
def laid_unicode_utf8_acceptRanges {H : Type} : DataW H := .agg [.agg [.lit (.int .u8 128), .lit (.int .u8 191)], .agg [.lit (.int .u8 160), .lit (.int .u8 191)], .agg [.lit (.int .u8 128), .lit (.int .u8 159)], .agg [.lit (.int .u8 144), .lit (.int .u8 191)], .agg [.lit (.int .u8 128), .lit (.int .u8 143)], .agg [.lit (.int .u8 0), .lit (.int .u8 0)], .agg [.lit (.int .u8 0), .lit (.int .u8 0)], .agg [.lit (.int .u8 0), .lit (.int .u8 0)], .agg [.lit (.int .u8 0), .lit (.int .u8 0)], .agg [.lit (.int .u8 0), .lit (.int .u8 0)], .agg [.lit (.int .u8 0), .lit (.int .u8 0)], .agg [.lit (.int .u8 0), .lit (.int .u8 0)], .agg [.lit (.int .u8 0), .lit (.int .u8 0)], .agg [.lit (.int .u8 0), .lit (.int .u8 0)], .agg [.lit (.int .u8 0), .lit (.int .u8 0)], .agg [.lit (.int .u8 0), .lit (.int .u8 0)]]
/-- One of Go's own tables, pinned by name: the form's constant. -/
def laid_unicode_utf8_first : DataW Unit := Go.Pinned.utf8First

/-- 'headgatelaw05.LogPlays': WHATEVER THE INPUT: true; the input reads as it did. -/
def logPlaysSpec : ChangeSpec := { name := "logPlays", fn := fun _ => fun
  | [d1, d2, d3] => { results := [.lit (.bool true)], args := [d1, d2, d3] }
  | _ => none }
def logPlaysRow : OpenClaim := { program := "ytjodkcjlipecdaagreatdoor", sum := "514f6c97d851d3080aa827c55ef8b0b3edb69376f4496d1f56c8c9044d43f5b0", func := "headgate/headgatelaw05.LogPlays", spec := "logPlays", inPlace := ["internal/bytealg.IndexByteString", "internal/bytealg.IndexString", "internal/abi.NoEscape", "internal/bytealg.MakeNoZero"], unfollowed := true, recurses := true, named := ["unicode/utf8.first", "unicode/utf8.acceptRanges", "internal/bytealg.MaxLen"], apart := false, laid := [("unicode/utf8.acceptRanges", laid_unicode_utf8_acceptRanges), ("unicode/utf8.first", laid_unicode_utf8_first)] }
def LogPlaysSaid : Prop := logPlaysRow.holds Tryz.pinned (OpenSpec.ofChange logPlaysSpec)

/-- ITS FALSE NEIGHBOUR: 'it returns false'. Refute it at one input. -/
def logPlaysWrong : ChangeSpec := { name := "logPlays", fn := fun _ => fun
  | [d1, d2, d3] => { results := [.lit (.bool false)], args := [d1, d2, d3] }
  | _ => none }
def LogPlaysWrongFalsely : Prop := logPlaysRow.holds Tryz.pinned (OpenSpec.ofChange logPlaysWrong)

/-- 'headgatelaw11.OffsetsWait': WHATEVER THE INPUT: true; the input reads as it did. -/
def offsetsWaitSpec : ChangeSpec := { name := "offsetsWait", fn := fun _ => fun
  | [d1, d2, d3, d4, d5] => { results := [.lit (.bool true)], args := [d1, d2, d3, d4, d5] }
  | _ => none }
def offsetsWaitRow : OpenClaim := { program := "ytjodkcjlipecdaagreatdoor", sum := "514f6c97d851d3080aa827c55ef8b0b3edb69376f4496d1f56c8c9044d43f5b0", func := "headgate/headgatelaw11.OffsetsWait", spec := "offsetsWait", inPlace := ["internal/bytealg.IndexByteString", "internal/bytealg.IndexString", "internal/abi.NoEscape", "internal/bytealg.MakeNoZero"], unfollowed := true, recurses := true, named := ["unicode/utf8.first", "unicode/utf8.acceptRanges", "internal/bytealg.MaxLen"], apart := false, laid := [("unicode/utf8.acceptRanges", laid_unicode_utf8_acceptRanges), ("unicode/utf8.first", laid_unicode_utf8_first)] }
def OffsetsWaitSaid : Prop := offsetsWaitRow.holds Tryz.pinned (OpenSpec.ofChange offsetsWaitSpec)

/-- ITS FALSE NEIGHBOUR: 'it returns false'. Refute it at one input. -/
def offsetsWaitWrong : ChangeSpec := { name := "offsetsWait", fn := fun _ => fun
  | [d1, d2, d3, d4, d5] => { results := [.lit (.bool false)], args := [d1, d2, d3, d4, d5] }
  | _ => none }
def OffsetsWaitWrongFalsely : Prop := offsetsWaitRow.holds Tryz.pinned (OpenSpec.ofChange offsetsWaitWrong)

/-- 'headgatelaw11.OffsetsRise': WHATEVER THE INPUT: true; the input reads as it did. -/
def offsetsRiseSpec : ChangeSpec := { name := "offsetsRise", fn := fun _ => fun
  | [d1, d2] => { results := [.lit (.bool true)], args := [d1, d2] }
  | _ => none }
def offsetsRiseRow : OpenClaim := { program := "ytjodkcjlipecdaagreatdoor", sum := "514f6c97d851d3080aa827c55ef8b0b3edb69376f4496d1f56c8c9044d43f5b0", func := "headgate/headgatelaw11.OffsetsRise", spec := "offsetsRise", inPlace := ["internal/bytealg.IndexByteString", "internal/bytealg.IndexString", "internal/abi.NoEscape", "internal/bytealg.MakeNoZero"], unfollowed := true, recurses := true, named := ["unicode/utf8.first", "unicode/utf8.acceptRanges", "internal/bytealg.MaxLen"], apart := false, laid := [("unicode/utf8.acceptRanges", laid_unicode_utf8_acceptRanges), ("unicode/utf8.first", laid_unicode_utf8_first)] }
def OffsetsRiseSaid : Prop := offsetsRiseRow.holds Tryz.pinned (OpenSpec.ofChange offsetsRiseSpec)

/-- ITS FALSE NEIGHBOUR: 'it returns false'. Refute it at one input. -/
def offsetsRiseWrong : ChangeSpec := { name := "offsetsRise", fn := fun _ => fun
  | [d1, d2] => { results := [.lit (.bool false)], args := [d1, d2] }
  | _ => none }
def OffsetsRiseWrongFalsely : Prop := offsetsRiseRow.holds Tryz.pinned (OpenSpec.ofChange offsetsRiseWrong)

/-- 'headgatelaw11.OffsetsNone': WHATEVER THE INPUT: true; the input reads as it did. -/
def offsetsNoneSpec : ChangeSpec := { name := "offsetsNone", fn := fun _ => fun
  | [d1, d2, d3, d4] => { results := [.lit (.bool true)], args := [d1, d2, d3, d4] }
  | _ => none }
def offsetsNoneRow : OpenClaim := { program := "ytjodkcjlipecdaagreatdoor", sum := "514f6c97d851d3080aa827c55ef8b0b3edb69376f4496d1f56c8c9044d43f5b0", func := "headgate/headgatelaw11.OffsetsNone", spec := "offsetsNone", inPlace := ["internal/bytealg.IndexByteString", "internal/bytealg.IndexString", "internal/abi.NoEscape", "internal/bytealg.MakeNoZero"], unfollowed := true, recurses := true, named := ["unicode/utf8.first", "unicode/utf8.acceptRanges", "internal/bytealg.MaxLen"], apart := false, laid := [("unicode/utf8.acceptRanges", laid_unicode_utf8_acceptRanges), ("unicode/utf8.first", laid_unicode_utf8_first)] }
def OffsetsNoneSaid : Prop := offsetsNoneRow.holds Tryz.pinned (OpenSpec.ofChange offsetsNoneSpec)

/-- ITS FALSE NEIGHBOUR: 'it returns false'. Refute it at one input. -/
def offsetsNoneWrong : ChangeSpec := { name := "offsetsNone", fn := fun _ => fun
  | [d1, d2, d3, d4] => { results := [.lit (.bool false)], args := [d1, d2, d3, d4] }
  | _ => none }
def OffsetsNoneWrongFalsely : Prop := offsetsNoneRow.holds Tryz.pinned (OpenSpec.ofChange offsetsNoneWrong)

/-- 'headgatelaw11.OffsetsLast': WHATEVER THE INPUT: true; the input reads as it did. -/
def offsetsLastSpec : ChangeSpec := { name := "offsetsLast", fn := fun _ => fun
  | [d1, d2, d3, d4] => { results := [.lit (.bool true)], args := [d1, d2, d3, d4] }
  | _ => none }
def offsetsLastRow : OpenClaim := { program := "ytjodkcjlipecdaagreatdoor", sum := "514f6c97d851d3080aa827c55ef8b0b3edb69376f4496d1f56c8c9044d43f5b0", func := "headgate/headgatelaw11.OffsetsLast", spec := "offsetsLast", inPlace := ["internal/bytealg.IndexByteString", "internal/bytealg.IndexString", "internal/abi.NoEscape", "internal/bytealg.MakeNoZero"], unfollowed := true, recurses := true, named := ["unicode/utf8.first", "unicode/utf8.acceptRanges", "internal/bytealg.MaxLen"], apart := false, laid := [("unicode/utf8.acceptRanges", laid_unicode_utf8_acceptRanges), ("unicode/utf8.first", laid_unicode_utf8_first)] }
def OffsetsLastSaid : Prop := offsetsLastRow.holds Tryz.pinned (OpenSpec.ofChange offsetsLastSpec)

/-- ITS FALSE NEIGHBOUR: 'it returns false'. Refute it at one input. -/
def offsetsLastWrong : ChangeSpec := { name := "offsetsLast", fn := fun _ => fun
  | [d1, d2, d3, d4] => { results := [.lit (.bool false)], args := [d1, d2, d3, d4] }
  | _ => none }
def OffsetsLastWrongFalsely : Prop := offsetsLastRow.holds Tryz.pinned (OpenSpec.ofChange offsetsLastWrong)

/-- 'headgatelaw11.OffsetsPlay': WHATEVER THE INPUT: true; the input reads as it did. -/
def offsetsPlaySpec : ChangeSpec := { name := "offsetsPlay", fn := fun _ => fun
  | [d1, d2, d3] => { results := [.lit (.bool true)], args := [d1, d2, d3] }
  | _ => none }
def offsetsPlayRow : OpenClaim := { program := "ytjodkcjlipecdaagreatdoor", sum := "514f6c97d851d3080aa827c55ef8b0b3edb69376f4496d1f56c8c9044d43f5b0", func := "headgate/headgatelaw11.OffsetsPlay", spec := "offsetsPlay", inPlace := ["internal/bytealg.IndexByteString", "internal/bytealg.IndexString", "internal/abi.NoEscape", "internal/bytealg.MakeNoZero"], unfollowed := true, recurses := true, named := ["unicode/utf8.first", "unicode/utf8.acceptRanges", "internal/bytealg.MaxLen"], apart := false, laid := [("unicode/utf8.acceptRanges", laid_unicode_utf8_acceptRanges), ("unicode/utf8.first", laid_unicode_utf8_first)] }
def OffsetsPlaySaid : Prop := offsetsPlayRow.holds Tryz.pinned (OpenSpec.ofChange offsetsPlaySpec)

/-- ITS FALSE NEIGHBOUR: 'it returns false'. Refute it at one input. -/
def offsetsPlayWrong : ChangeSpec := { name := "offsetsPlay", fn := fun _ => fun
  | [d1, d2, d3] => { results := [.lit (.bool false)], args := [d1, d2, d3] }
  | _ => none }
def OffsetsPlayWrongFalsely : Prop := offsetsPlayRow.holds Tryz.pinned (OpenSpec.ofChange offsetsPlayWrong)

/- THE SECOND FORM. 'bulk': how many values and letters a reading holds, each counted each time it is reached (what is shared counts as often as it is met; a slice's spare places count too). A statement '..UptoSaid' is the law's where the arguments, and the package variables that the reading takes, are together of bulk at most 1048576: NARROWER than '..Said'. Prove '..Said' where nothing that the law and all that it calls make is longer than what came in: it says more and counts as full. Else prove '..UptoSaid'. A law counts once. -/
mutual
def uptoBulk {H : Type} : DataW H → Nat
  | .lit (.string bytes) => bytes.length + 1
  | .lit _ => 1
  | .nil => 1
  | .ptr d => uptoBulk d + 1
  | .slice elems spare => uptoBulkAll elems + uptoBulkAll spare + 1
  | .agg parts => uptoBulkAll parts + 1
  | .iface _ d => uptoBulk d + 1
  | .map entries => uptoBulkEntries entries + 1
  | .held _ => 1
def uptoBulkAll {H : Type} : List (DataW H) → Nat
  | [] => 0
  | d :: r => uptoBulk d + uptoBulkAll r
def uptoBulkEntries {H : Type} : List (Lit × DataW H) → Nat
  | [] => 0
  | x :: r => uptoBulkEntry x + uptoBulkEntries r
def uptoBulkEntry {H : Type} : Lit × DataW H → Nat
  | (.string bytes, d) => bytes.length + uptoBulk d + 1
  | (_, d) => uptoBulk d + 1
 end
def uptoSmall : (H : Type) → List (DataW H) → Bool := fun _ ds => decide (uptoBulkAll ds ≤ 1048576)
def OpenSpec.upto (s : _root_.Go.ChangeSpec) : _root_.Go.OpenSpec := { _root_.Go.OpenSpec.ofChange s with cond := some uptoSmall }

/-- 'headgatelaw05.LogPlays', WHERE WHAT IT READS IS OF BULK AT MOST 1048576: true; the input reads as it did. -/
def logPlaysUptoRow : OpenClaim := { program := "ytjodkcjlipecdaagreatdoor", sum := "514f6c97d851d3080aa827c55ef8b0b3edb69376f4496d1f56c8c9044d43f5b0", func := "headgate/headgatelaw05.LogPlays", spec := "logPlays", inPlace := ["internal/bytealg.IndexByteString", "internal/bytealg.IndexString", "internal/abi.NoEscape", "internal/bytealg.MakeNoZero"], unfollowed := true, recurses := true, named := ["unicode/utf8.first", "unicode/utf8.acceptRanges", "internal/bytealg.MaxLen"], apart := false, laid := [("unicode/utf8.acceptRanges", laid_unicode_utf8_acceptRanges), ("unicode/utf8.first", laid_unicode_utf8_first)], narrowed := true }
def LogPlaysUptoSaid : Prop := logPlaysUptoRow.holds Tryz.pinned (OpenSpec.upto logPlaysSpec)

/-- 'headgatelaw11.OffsetsWait', WHERE WHAT IT READS IS OF BULK AT MOST 1048576: true; the input reads as it did. -/
def offsetsWaitUptoRow : OpenClaim := { program := "ytjodkcjlipecdaagreatdoor", sum := "514f6c97d851d3080aa827c55ef8b0b3edb69376f4496d1f56c8c9044d43f5b0", func := "headgate/headgatelaw11.OffsetsWait", spec := "offsetsWait", inPlace := ["internal/bytealg.IndexByteString", "internal/bytealg.IndexString", "internal/abi.NoEscape", "internal/bytealg.MakeNoZero"], unfollowed := true, recurses := true, named := ["unicode/utf8.first", "unicode/utf8.acceptRanges", "internal/bytealg.MaxLen"], apart := false, laid := [("unicode/utf8.acceptRanges", laid_unicode_utf8_acceptRanges), ("unicode/utf8.first", laid_unicode_utf8_first)], narrowed := true }
def OffsetsWaitUptoSaid : Prop := offsetsWaitUptoRow.holds Tryz.pinned (OpenSpec.upto offsetsWaitSpec)

/-- 'headgatelaw11.OffsetsRise', WHERE WHAT IT READS IS OF BULK AT MOST 1048576: true; the input reads as it did. -/
def offsetsRiseUptoRow : OpenClaim := { program := "ytjodkcjlipecdaagreatdoor", sum := "514f6c97d851d3080aa827c55ef8b0b3edb69376f4496d1f56c8c9044d43f5b0", func := "headgate/headgatelaw11.OffsetsRise", spec := "offsetsRise", inPlace := ["internal/bytealg.IndexByteString", "internal/bytealg.IndexString", "internal/abi.NoEscape", "internal/bytealg.MakeNoZero"], unfollowed := true, recurses := true, named := ["unicode/utf8.first", "unicode/utf8.acceptRanges", "internal/bytealg.MaxLen"], apart := false, laid := [("unicode/utf8.acceptRanges", laid_unicode_utf8_acceptRanges), ("unicode/utf8.first", laid_unicode_utf8_first)], narrowed := true }
def OffsetsRiseUptoSaid : Prop := offsetsRiseUptoRow.holds Tryz.pinned (OpenSpec.upto offsetsRiseSpec)

/-- 'headgatelaw11.OffsetsNone', WHERE WHAT IT READS IS OF BULK AT MOST 1048576: true; the input reads as it did. -/
def offsetsNoneUptoRow : OpenClaim := { program := "ytjodkcjlipecdaagreatdoor", sum := "514f6c97d851d3080aa827c55ef8b0b3edb69376f4496d1f56c8c9044d43f5b0", func := "headgate/headgatelaw11.OffsetsNone", spec := "offsetsNone", inPlace := ["internal/bytealg.IndexByteString", "internal/bytealg.IndexString", "internal/abi.NoEscape", "internal/bytealg.MakeNoZero"], unfollowed := true, recurses := true, named := ["unicode/utf8.first", "unicode/utf8.acceptRanges", "internal/bytealg.MaxLen"], apart := false, laid := [("unicode/utf8.acceptRanges", laid_unicode_utf8_acceptRanges), ("unicode/utf8.first", laid_unicode_utf8_first)], narrowed := true }
def OffsetsNoneUptoSaid : Prop := offsetsNoneUptoRow.holds Tryz.pinned (OpenSpec.upto offsetsNoneSpec)

/-- 'headgatelaw11.OffsetsLast', WHERE WHAT IT READS IS OF BULK AT MOST 1048576: true; the input reads as it did. -/
def offsetsLastUptoRow : OpenClaim := { program := "ytjodkcjlipecdaagreatdoor", sum := "514f6c97d851d3080aa827c55ef8b0b3edb69376f4496d1f56c8c9044d43f5b0", func := "headgate/headgatelaw11.OffsetsLast", spec := "offsetsLast", inPlace := ["internal/bytealg.IndexByteString", "internal/bytealg.IndexString", "internal/abi.NoEscape", "internal/bytealg.MakeNoZero"], unfollowed := true, recurses := true, named := ["unicode/utf8.first", "unicode/utf8.acceptRanges", "internal/bytealg.MaxLen"], apart := false, laid := [("unicode/utf8.acceptRanges", laid_unicode_utf8_acceptRanges), ("unicode/utf8.first", laid_unicode_utf8_first)], narrowed := true }
def OffsetsLastUptoSaid : Prop := offsetsLastUptoRow.holds Tryz.pinned (OpenSpec.upto offsetsLastSpec)

/-- 'headgatelaw11.OffsetsPlay', WHERE WHAT IT READS IS OF BULK AT MOST 1048576: true; the input reads as it did. -/
def offsetsPlayUptoRow : OpenClaim := { program := "ytjodkcjlipecdaagreatdoor", sum := "514f6c97d851d3080aa827c55ef8b0b3edb69376f4496d1f56c8c9044d43f5b0", func := "headgate/headgatelaw11.OffsetsPlay", spec := "offsetsPlay", inPlace := ["internal/bytealg.IndexByteString", "internal/bytealg.IndexString", "internal/abi.NoEscape", "internal/bytealg.MakeNoZero"], unfollowed := true, recurses := true, named := ["unicode/utf8.first", "unicode/utf8.acceptRanges", "internal/bytealg.MaxLen"], apart := false, laid := [("unicode/utf8.acceptRanges", laid_unicode_utf8_acceptRanges), ("unicode/utf8.first", laid_unicode_utf8_first)], narrowed := true }
def OffsetsPlayUptoSaid : Prop := offsetsPlayUptoRow.holds Tryz.pinned (OpenSpec.upto offsetsPlaySpec)

end Rows
end Go.Proofs.YtjodkcjlipecdaaGreatDoor
