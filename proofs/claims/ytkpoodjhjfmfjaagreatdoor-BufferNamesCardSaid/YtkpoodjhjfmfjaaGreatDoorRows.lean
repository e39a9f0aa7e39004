/-
  NARROWER THAN 'FOR EVERY INPUT', by the rows' own cells (each row's printed sentence says how): BufferNames: laid · BufferReach: laid · BufferPasted: laid · BufferSaved: laid · BufferTicks: laid · BufferUndone: laid · BufferReads: laid · BufferApart: laid.
  DERIVED. THE GIVEN ROWS OF THIS SEAT. 8 by the template 'for every input the law returns true; each argument reads behind the call as it read before'; 0 by the template 'total and deterministic' (their statements: YtkpoodjhjfmfjaaGreatDoorTotals.lean).
  GIVEN WITH THE SEED: the statements are not yours to turn. If you find one false, say at which input.
  Laid BY PROGRAM, IN A SANDBOX (cutbox-rows.mjs): the forced cells as the released guide's own fill.sh prints them over the translation 15c26e7b9a8b5399… (all of the seat's roots in one cut). By AI agents, Wed Nov 11 2026. No macro, syntax, notation, axiom, sorry.
-/
import Derived.Test.YtkpoodjhjfmfjaaGreatDoorChecked
import GoSem.PinnedTables
import GoSem.Claim
import GoSem.ClaimJoined
import GoSem.ClaimMapViews
import Derived.JoinedTies
import Derived.KernelRfl
namespace Go.Proofs.YtkpoodjhjfmfjaaGreatDoor
/- THE CELL 'sum', in the pinned program and in every row, IS THE sha256 OF THE DUMP (.gsa) THAT YtkpoodjhjfmfjaaGreatDoorProg.lean LOADS. Nothing in Lean hashes anything: it is a label: what it is worth is what the hold of that sum in a sandbox is worth. -/
noncomputable def Tryz.pinned : Pinned := { name := "ytkpoodjhjfmfjaagreatdoor", sum := "15c26e7b9a8b53997fe858c48d6335530a16f9d0f5ef3b023b1fe12b3400df2d", checked := Tryz.checked }
namespace Rows
def none {H : Type} : Left H := { results := [], args := [] }

/- WHAT THE LISTED PACKAGE-LEVEL VARIABLES READ AS WHEN THE CALL BEGINS. Each datum BY PROGRAM (the guide's laid-datum.mjs) off the statement by which the dump's own 'gosem.cut.vars' lays the variable. In a bare row this is a premise. The card (YtkpoodjhjfmfjaaGreatDoorCards.lean) ties it to the program's text. -/
def laid_unicode_utf8_acceptRanges {H : Type} : DataW H := .agg [.agg [.lit (.int .u8 128), .lit (.int .u8 191)], .agg [.lit (.int .u8 160), .lit (.int .u8 191)], .agg [.lit (.int .u8 128), .lit (.int .u8 159)], .agg [.lit (.int .u8 144), .lit (.int .u8 191)], .agg [.lit (.int .u8 128), .lit (.int .u8 143)], .agg [.lit (.int .u8 0), .lit (.int .u8 0)], .agg [.lit (.int .u8 0), .lit (.int .u8 0)], .agg [.lit (.int .u8 0), .lit (.int .u8 0)], .agg [.lit (.int .u8 0), .lit (.int .u8 0)], .agg [.lit (.int .u8 0), .lit (.int .u8 0)], .agg [.lit (.int .u8 0), .lit (.int .u8 0)], .agg [.lit (.int .u8 0), .lit (.int .u8 0)], .agg [.lit (.int .u8 0), .lit (.int .u8 0)], .agg [.lit (.int .u8 0), .lit (.int .u8 0)], .agg [.lit (.int .u8 0), .lit (.int .u8 0)], .agg [.lit (.int .u8 0), .lit (.int .u8 0)]]
def laid_copyist_undo_rules {H : Type} : DataW H := .agg [.agg [.lit (.bool false), .lit (.bool false), .lit (.bool false), .lit (.bool false)], .agg [.lit (.bool true), .lit (.bool true), .lit (.bool false), .lit (.bool false)], .agg [.lit (.bool true), .lit (.bool false), .lit (.bool false), .lit (.bool true)], .agg [.lit (.bool true), .lit (.bool false), .lit (.bool false), .lit (.bool false)], .agg [.lit (.bool true), .lit (.bool false), .lit (.bool false), .lit (.bool false)], .agg [.lit (.bool true), .lit (.bool true), .lit (.bool true), .lit (.bool false)], .agg [.lit (.bool false), .lit (.bool false), .lit (.bool false), .lit (.bool false)]]
/-- One of Go's own tables, pinned by name: the form's constant. -/
def laid_unicode_utf8_first : DataW Unit := Go.Pinned.utf8First

/-- 'copyistlaw20.BufferNames': WHATEVER THE INPUT: true; the input reads as it did. -/
def bufferNamesSpec : ChangeSpec := { name := "bufferNames", fn := fun _ => fun
  | [] => { results := [.lit (.bool true)], args := [] }
  | _ => none }
def bufferNamesRow : OpenClaim := { program := "ytkpoodjhjfmfjaagreatdoor", sum := "15c26e7b9a8b53997fe858c48d6335530a16f9d0f5ef3b023b1fe12b3400df2d", func := "copyist/copyistlaw20.BufferNames", spec := "bufferNames", inPlace := ["slices.overlaps[int]", "slices.overlaps[copyist/props.piece]"], unfollowed := true, recurses := true, named := ["unicode/utf8.first", "unicode/utf8.acceptRanges", "copyist/undo.rules"], apart := false, laid := [("unicode/utf8.acceptRanges", laid_unicode_utf8_acceptRanges), ("copyist/undo.rules", laid_copyist_undo_rules), ("unicode/utf8.first", laid_unicode_utf8_first)] }
def BufferNamesSaid : Prop := bufferNamesRow.holds Tryz.pinned (OpenSpec.ofChange bufferNamesSpec)

/-- ITS FALSE NEIGHBOUR: 'it returns false'. Refute it at one input. -/
def bufferNamesWrong : ChangeSpec := { name := "bufferNames", fn := fun _ => fun
  | [] => { results := [.lit (.bool false)], args := [] }
  | _ => none }
def BufferNamesWrongFalsely : Prop := bufferNamesRow.holds Tryz.pinned (OpenSpec.ofChange bufferNamesWrong)

/-- 'copyistlaw20.BufferReach': WHATEVER THE INPUT: true; the input reads as it did. -/
def bufferReachSpec : ChangeSpec := { name := "bufferReach", fn := fun _ => fun
  | [d1, d2, d3, d4] => { results := [.lit (.bool true)], args := [d1, d2, d3, d4] }
  | _ => none }
def bufferReachRow : OpenClaim := { program := "ytkpoodjhjfmfjaagreatdoor", sum := "15c26e7b9a8b53997fe858c48d6335530a16f9d0f5ef3b023b1fe12b3400df2d", func := "copyist/copyistlaw20.BufferReach", spec := "bufferReach", inPlace := ["slices.overlaps[int]", "slices.overlaps[copyist/props.piece]", "slices.overlaps[copyist/api.Prop]"], unfollowed := true, recurses := true, named := ["unicode/utf8.first", "unicode/utf8.acceptRanges", "copyist/undo.rules"], apart := false, laid := [("unicode/utf8.acceptRanges", laid_unicode_utf8_acceptRanges), ("copyist/undo.rules", laid_copyist_undo_rules), ("unicode/utf8.first", laid_unicode_utf8_first)] }
def BufferReachSaid : Prop := bufferReachRow.holds Tryz.pinned (OpenSpec.ofChange bufferReachSpec)

/-- ITS FALSE NEIGHBOUR: 'it returns false'. Refute it at one input. -/
def bufferReachWrong : ChangeSpec := { name := "bufferReach", fn := fun _ => fun
  | [d1, d2, d3, d4] => { results := [.lit (.bool false)], args := [d1, d2, d3, d4] }
  | _ => none }
def BufferReachWrongFalsely : Prop := bufferReachRow.holds Tryz.pinned (OpenSpec.ofChange bufferReachWrong)

/-- 'copyistlaw20.BufferPasted': WHATEVER THE INPUT: true; the input reads as it did. -/
def bufferPastedSpec : ChangeSpec := { name := "bufferPasted", fn := fun _ => fun
  | [d1, d2, d3, d4, d5] => { results := [.lit (.bool true)], args := [d1, d2, d3, d4, d5] }
  | _ => none }
def bufferPastedRow : OpenClaim := { program := "ytkpoodjhjfmfjaagreatdoor", sum := "15c26e7b9a8b53997fe858c48d6335530a16f9d0f5ef3b023b1fe12b3400df2d", func := "copyist/copyistlaw20.BufferPasted", spec := "bufferPasted", inPlace := ["slices.overlaps[int]", "slices.overlaps[copyist/props.piece]", "slices.overlaps[copyist/api.Prop]"], unfollowed := true, recurses := true, named := ["unicode/utf8.first", "unicode/utf8.acceptRanges", "copyist/undo.rules"], apart := false, laid := [("unicode/utf8.acceptRanges", laid_unicode_utf8_acceptRanges), ("copyist/undo.rules", laid_copyist_undo_rules), ("unicode/utf8.first", laid_unicode_utf8_first)] }
def BufferPastedSaid : Prop := bufferPastedRow.holds Tryz.pinned (OpenSpec.ofChange bufferPastedSpec)

/-- ITS FALSE NEIGHBOUR: 'it returns false'. Refute it at one input. -/
def bufferPastedWrong : ChangeSpec := { name := "bufferPasted", fn := fun _ => fun
  | [d1, d2, d3, d4, d5] => { results := [.lit (.bool false)], args := [d1, d2, d3, d4, d5] }
  | _ => none }
def BufferPastedWrongFalsely : Prop := bufferPastedRow.holds Tryz.pinned (OpenSpec.ofChange bufferPastedWrong)

/-- 'copyistlaw20.BufferSaved': WHATEVER THE INPUT: true; the input reads as it did. -/
def bufferSavedSpec : ChangeSpec := { name := "bufferSaved", fn := fun _ => fun
  | [d1, d2, d3, d4, d5, d6] => { results := [.lit (.bool true)], args := [d1, d2, d3, d4, d5, d6] }
  | _ => none }
def bufferSavedRow : OpenClaim := { program := "ytkpoodjhjfmfjaagreatdoor", sum := "15c26e7b9a8b53997fe858c48d6335530a16f9d0f5ef3b023b1fe12b3400df2d", func := "copyist/copyistlaw20.BufferSaved", spec := "bufferSaved", inPlace := ["slices.overlaps[int]", "slices.overlaps[copyist/props.piece]", "slices.overlaps[copyist/api.Prop]"], unfollowed := true, recurses := true, named := ["unicode/utf8.first", "unicode/utf8.acceptRanges", "copyist/undo.rules"], apart := false, laid := [("unicode/utf8.acceptRanges", laid_unicode_utf8_acceptRanges), ("copyist/undo.rules", laid_copyist_undo_rules), ("unicode/utf8.first", laid_unicode_utf8_first)] }
def BufferSavedSaid : Prop := bufferSavedRow.holds Tryz.pinned (OpenSpec.ofChange bufferSavedSpec)

/-- ITS FALSE NEIGHBOUR: 'it returns false'. Refute it at one input. -/
def bufferSavedWrong : ChangeSpec := { name := "bufferSaved", fn := fun _ => fun
  | [d1, d2, d3, d4, d5, d6] => { results := [.lit (.bool false)], args := [d1, d2, d3, d4, d5, d6] }
  | _ => none }
def BufferSavedWrongFalsely : Prop := bufferSavedRow.holds Tryz.pinned (OpenSpec.ofChange bufferSavedWrong)

/-- 'copyistlaw20.BufferTicks': WHATEVER THE INPUT: true; the input reads as it did. -/
def bufferTicksSpec : ChangeSpec := { name := "bufferTicks", fn := fun _ => fun
  | [d1, d2] => { results := [.lit (.bool true)], args := [d1, d2] }
  | _ => none }
def bufferTicksRow : OpenClaim := { program := "ytkpoodjhjfmfjaagreatdoor", sum := "15c26e7b9a8b53997fe858c48d6335530a16f9d0f5ef3b023b1fe12b3400df2d", func := "copyist/copyistlaw20.BufferTicks", spec := "bufferTicks", inPlace := ["slices.overlaps[int]", "slices.overlaps[copyist/props.piece]", "slices.overlaps[copyist/api.Prop]"], unfollowed := true, recurses := true, named := ["unicode/utf8.first", "unicode/utf8.acceptRanges", "copyist/undo.rules"], apart := false, laid := [("unicode/utf8.acceptRanges", laid_unicode_utf8_acceptRanges), ("copyist/undo.rules", laid_copyist_undo_rules), ("unicode/utf8.first", laid_unicode_utf8_first)] }
def BufferTicksSaid : Prop := bufferTicksRow.holds Tryz.pinned (OpenSpec.ofChange bufferTicksSpec)

/-- ITS FALSE NEIGHBOUR: 'it returns false'. Refute it at one input. -/
def bufferTicksWrong : ChangeSpec := { name := "bufferTicks", fn := fun _ => fun
  | [d1, d2] => { results := [.lit (.bool false)], args := [d1, d2] }
  | _ => none }
def BufferTicksWrongFalsely : Prop := bufferTicksRow.holds Tryz.pinned (OpenSpec.ofChange bufferTicksWrong)

/-- 'copyistlaw20.BufferUndone': WHATEVER THE INPUT: true; the input reads as it did. -/
def bufferUndoneSpec : ChangeSpec := { name := "bufferUndone", fn := fun _ => fun
  | [d1, d2, d3] => { results := [.lit (.bool true)], args := [d1, d2, d3] }
  | _ => none }
def bufferUndoneRow : OpenClaim := { program := "ytkpoodjhjfmfjaagreatdoor", sum := "15c26e7b9a8b53997fe858c48d6335530a16f9d0f5ef3b023b1fe12b3400df2d", func := "copyist/copyistlaw20.BufferUndone", spec := "bufferUndone", inPlace := ["slices.overlaps[int]", "slices.overlaps[copyist/props.piece]", "slices.overlaps[copyist/api.Prop]"], unfollowed := true, recurses := true, named := ["unicode/utf8.first", "unicode/utf8.acceptRanges", "copyist/undo.rules"], apart := false, laid := [("unicode/utf8.acceptRanges", laid_unicode_utf8_acceptRanges), ("copyist/undo.rules", laid_copyist_undo_rules), ("unicode/utf8.first", laid_unicode_utf8_first)] }
def BufferUndoneSaid : Prop := bufferUndoneRow.holds Tryz.pinned (OpenSpec.ofChange bufferUndoneSpec)

/-- ITS FALSE NEIGHBOUR: 'it returns false'. Refute it at one input. -/
def bufferUndoneWrong : ChangeSpec := { name := "bufferUndone", fn := fun _ => fun
  | [d1, d2, d3] => { results := [.lit (.bool false)], args := [d1, d2, d3] }
  | _ => none }
def BufferUndoneWrongFalsely : Prop := bufferUndoneRow.holds Tryz.pinned (OpenSpec.ofChange bufferUndoneWrong)

/-- 'copyistlaw20.BufferReads': WHATEVER THE INPUT: true; the input reads as it did. -/
def bufferReadsSpec : ChangeSpec := { name := "bufferReads", fn := fun _ => fun
  | [d1, d2, d3] => { results := [.lit (.bool true)], args := [d1, d2, d3] }
  | _ => none }
def bufferReadsRow : OpenClaim := { program := "ytkpoodjhjfmfjaagreatdoor", sum := "15c26e7b9a8b53997fe858c48d6335530a16f9d0f5ef3b023b1fe12b3400df2d", func := "copyist/copyistlaw20.BufferReads", spec := "bufferReads", inPlace := ["slices.overlaps[int]", "slices.overlaps[copyist/props.piece]", "slices.overlaps[copyist/api.Prop]", "maps.clone"], unfollowed := true, recurses := true, named := ["unicode/utf8.first", "unicode/utf8.acceptRanges", "copyist/undo.rules"], apart := false, laid := [("unicode/utf8.acceptRanges", laid_unicode_utf8_acceptRanges), ("copyist/undo.rules", laid_copyist_undo_rules), ("unicode/utf8.first", laid_unicode_utf8_first)] }
def BufferReadsSaid : Prop := bufferReadsRow.holds Tryz.pinned (OpenSpec.ofChange bufferReadsSpec)

/-- ITS FALSE NEIGHBOUR: 'it returns false'. Refute it at one input. -/
def bufferReadsWrong : ChangeSpec := { name := "bufferReads", fn := fun _ => fun
  | [d1, d2, d3] => { results := [.lit (.bool false)], args := [d1, d2, d3] }
  | _ => none }
def BufferReadsWrongFalsely : Prop := bufferReadsRow.holds Tryz.pinned (OpenSpec.ofChange bufferReadsWrong)

/-- 'copyistlaw20.BufferApart': WHATEVER THE INPUT: true; the input reads as it did. -/
def bufferApartSpec : ChangeSpec := { name := "bufferApart", fn := fun _ => fun
  | [d1, d2, d3] => { results := [.lit (.bool true)], args := [d1, d2, d3] }
  | _ => none }
def bufferApartRow : OpenClaim := { program := "ytkpoodjhjfmfjaagreatdoor", sum := "15c26e7b9a8b53997fe858c48d6335530a16f9d0f5ef3b023b1fe12b3400df2d", func := "copyist/copyistlaw20.BufferApart", spec := "bufferApart", inPlace := ["slices.overlaps[int]", "slices.overlaps[copyist/props.piece]", "slices.overlaps[copyist/api.Prop]", "maps.clone"], unfollowed := true, recurses := true, named := ["unicode/utf8.first", "unicode/utf8.acceptRanges", "copyist/undo.rules"], apart := false, laid := [("unicode/utf8.acceptRanges", laid_unicode_utf8_acceptRanges), ("copyist/undo.rules", laid_copyist_undo_rules), ("unicode/utf8.first", laid_unicode_utf8_first)] }
def BufferApartSaid : Prop := bufferApartRow.holds Tryz.pinned (OpenSpec.ofChange bufferApartSpec)

/-- ITS FALSE NEIGHBOUR: 'it returns false'. Refute it at one input. -/
def bufferApartWrong : ChangeSpec := { name := "bufferApart", fn := fun _ => fun
  | [d1, d2, d3] => { results := [.lit (.bool false)], args := [d1, d2, d3] }
  | _ => none }
def BufferApartWrongFalsely : Prop := bufferApartRow.holds Tryz.pinned (OpenSpec.ofChange bufferApartWrong)

/- THE SECOND FORM. 'bulk': how many values and letters a reading holds, each counted each time it is reached (what is shared counts as often as it is met; a slice's spare places count too). A statement '..UptoSaid' is the law's where the arguments, and the package variables that the reading takes, are together of bulk at most 1048576: NARROWER than '..Said'. Prove '..Said' where nothing that the law and all that it calls make is longer than what came in: it says more and counts as full. Else prove '..UptoSaid'. A law counts once. -/
mutual
def uptoBulk {H : Type} : DataW H → Nat
  | .lit (.string bytes) => bytes.length + 1
  | .lit _ => 1
  | .nil => 1
  | .ptr d => uptoBulk d + 1
  | .slice elems spare => uptoBulkAll elems + uptoBulkAll spare + 1
  | .agg parts => uptoBulkAll parts + 1
  | .iface _ d => uptoBulk d + 1
  | .map entries => uptoBulkEntries entries + 1
  | .held _ => 1
def uptoBulkAll {H : Type} : List (DataW H) → Nat
  | [] => 0
  | d :: r => uptoBulk d + uptoBulkAll r
def uptoBulkEntries {H : Type} : List (Lit × DataW H) → Nat
  | [] => 0
  | x :: r => uptoBulkEntry x + uptoBulkEntries r
def uptoBulkEntry {H : Type} : Lit × DataW H → Nat
  | (.string bytes, d) => bytes.length + uptoBulk d + 1
  | (_, d) => uptoBulk d + 1
 end
def uptoSmall : (H : Type) → List (DataW H) → Bool := fun _ ds => decide (uptoBulkAll ds ≤ 1048576)
def OpenSpec.upto (s : _root_.Go.ChangeSpec) : _root_.Go.OpenSpec := { _root_.Go.OpenSpec.ofChange s with cond := some uptoSmall }

/-- 'copyistlaw20.BufferNames', WHERE WHAT IT READS IS OF BULK AT MOST 1048576: true; the input reads as it did. -/
def bufferNamesUptoRow : OpenClaim := { program := "ytkpoodjhjfmfjaagreatdoor", sum := "15c26e7b9a8b53997fe858c48d6335530a16f9d0f5ef3b023b1fe12b3400df2d", func := "copyist/copyistlaw20.BufferNames", spec := "bufferNames", inPlace := ["slices.overlaps[int]", "slices.overlaps[copyist/props.piece]"], unfollowed := true, recurses := true, named := ["unicode/utf8.first", "unicode/utf8.acceptRanges", "copyist/undo.rules"], apart := false, laid := [("unicode/utf8.acceptRanges", laid_unicode_utf8_acceptRanges), ("copyist/undo.rules", laid_copyist_undo_rules), ("unicode/utf8.first", laid_unicode_utf8_first)], narrowed := true }
def BufferNamesUptoSaid : Prop := bufferNamesUptoRow.holds Tryz.pinned (OpenSpec.upto bufferNamesSpec)

/-- 'copyistlaw20.BufferReach', WHERE WHAT IT READS IS OF BULK AT MOST 1048576: true; the input reads as it did. -/
def bufferReachUptoRow : OpenClaim := { program := "ytkpoodjhjfmfjaagreatdoor", sum := "15c26e7b9a8b53997fe858c48d6335530a16f9d0f5ef3b023b1fe12b3400df2d", func := "copyist/copyistlaw20.BufferReach", spec := "bufferReach", inPlace := ["slices.overlaps[int]", "slices.overlaps[copyist/props.piece]", "slices.overlaps[copyist/api.Prop]"], unfollowed := true, recurses := true, named := ["unicode/utf8.first", "unicode/utf8.acceptRanges", "copyist/undo.rules"], apart := false, laid := [("unicode/utf8.acceptRanges", laid_unicode_utf8_acceptRanges), ("copyist/undo.rules", laid_copyist_undo_rules), ("unicode/utf8.first", laid_unicode_utf8_first)], narrowed := true }
def BufferReachUptoSaid : Prop := bufferReachUptoRow.holds Tryz.pinned (OpenSpec.upto bufferReachSpec)

/-- 'copyistlaw20.BufferPasted', WHERE WHAT IT READS IS OF BULK AT MOST 1048576: true; the input reads as it did. -/
def bufferPastedUptoRow : OpenClaim := { program := "ytkpoodjhjfmfjaagreatdoor", sum := "15c26e7b9a8b53997fe858c48d6335530a16f9d0f5ef3b023b1fe12b3400df2d", func := "copyist/copyistlaw20.BufferPasted", spec := "bufferPasted", inPlace := ["slices.overlaps[int]", "slices.overlaps[copyist/props.piece]", "slices.overlaps[copyist/api.Prop]"], unfollowed := true, recurses := true, named := ["unicode/utf8.first", "unicode/utf8.acceptRanges", "copyist/undo.rules"], apart := false, laid := [("unicode/utf8.acceptRanges", laid_unicode_utf8_acceptRanges), ("copyist/undo.rules", laid_copyist_undo_rules), ("unicode/utf8.first", laid_unicode_utf8_first)], narrowed := true }
def BufferPastedUptoSaid : Prop := bufferPastedUptoRow.holds Tryz.pinned (OpenSpec.upto bufferPastedSpec)

/-- 'copyistlaw20.BufferSaved', WHERE WHAT IT READS IS OF BULK AT MOST 1048576: true; the input reads as it did. -/
def bufferSavedUptoRow : OpenClaim := { program := "ytkpoodjhjfmfjaagreatdoor", sum := "15c26e7b9a8b53997fe858c48d6335530a16f9d0f5ef3b023b1fe12b3400df2d", func := "copyist/copyistlaw20.BufferSaved", spec := "bufferSaved", inPlace := ["slices.overlaps[int]", "slices.overlaps[copyist/props.piece]", "slices.overlaps[copyist/api.Prop]"], unfollowed := true, recurses := true, named := ["unicode/utf8.first", "unicode/utf8.acceptRanges", "copyist/undo.rules"], apart := false, laid := [("unicode/utf8.acceptRanges", laid_unicode_utf8_acceptRanges), ("copyist/undo.rules", laid_copyist_undo_rules), ("unicode/utf8.first", laid_unicode_utf8_first)], narrowed := true }
def BufferSavedUptoSaid : Prop := bufferSavedUptoRow.holds Tryz.pinned (OpenSpec.upto bufferSavedSpec)

/-- 'copyistlaw20.BufferTicks', WHERE WHAT IT READS IS OF BULK AT MOST 1048576: true; the input reads as it did. -/
def bufferTicksUptoRow : OpenClaim := { program := "ytkpoodjhjfmfjaagreatdoor", sum := "15c26e7b9a8b53997fe858c48d6335530a16f9d0f5ef3b023b1fe12b3400df2d", func := "copyist/copyistlaw20.BufferTicks", spec := "bufferTicks", inPlace := ["slices.overlaps[int]", "slices.overlaps[copyist/props.piece]", "slices.overlaps[copyist/api.Prop]"], unfollowed := true, recurses := true, named := ["unicode/utf8.first", "unicode/utf8.acceptRanges", "copyist/undo.rules"], apart := false, laid := [("unicode/utf8.acceptRanges", laid_unicode_utf8_acceptRanges), ("copyist/undo.rules", laid_copyist_undo_rules), ("unicode/utf8.first", laid_unicode_utf8_first)], narrowed := true }
def BufferTicksUptoSaid : Prop := bufferTicksUptoRow.holds Tryz.pinned (OpenSpec.upto bufferTicksSpec)

/-- 'copyistlaw20.BufferUndone', WHERE WHAT IT READS IS OF BULK AT MOST 1048576: true; the input reads as it did. -/
def bufferUndoneUptoRow : OpenClaim := { program := "ytkpoodjhjfmfjaagreatdoor", sum := "15c26e7b9a8b53997fe858c48d6335530a16f9d0f5ef3b023b1fe12b3400df2d", func := "copyist/copyistlaw20.BufferUndone", spec := "bufferUndone", inPlace := ["slices.overlaps[int]", "slices.overlaps[copyist/props.piece]", "slices.overlaps[copyist/api.Prop]"], unfollowed := true, recurses := true, named := ["unicode/utf8.first", "unicode/utf8.acceptRanges", "copyist/undo.rules"], apart := false, laid := [("unicode/utf8.acceptRanges", laid_unicode_utf8_acceptRanges), ("copyist/undo.rules", laid_copyist_undo_rules), ("unicode/utf8.first", laid_unicode_utf8_first)], narrowed := true }
def BufferUndoneUptoSaid : Prop := bufferUndoneUptoRow.holds Tryz.pinned (OpenSpec.upto bufferUndoneSpec)

/-- 'copyistlaw20.BufferReads', WHERE WHAT IT READS IS OF BULK AT MOST 1048576: true; the input reads as it did. -/
def bufferReadsUptoRow : OpenClaim := { program := "ytkpoodjhjfmfjaagreatdoor", sum := "15c26e7b9a8b53997fe858c48d6335530a16f9d0f5ef3b023b1fe12b3400df2d", func := "copyist/copyistlaw20.BufferReads", spec := "bufferReads", inPlace := ["slices.overlaps[int]", "slices.overlaps[copyist/props.piece]", "slices.overlaps[copyist/api.Prop]", "maps.clone"], unfollowed := true, recurses := true, named := ["unicode/utf8.first", "unicode/utf8.acceptRanges", "copyist/undo.rules"], apart := false, laid := [("unicode/utf8.acceptRanges", laid_unicode_utf8_acceptRanges), ("copyist/undo.rules", laid_copyist_undo_rules), ("unicode/utf8.first", laid_unicode_utf8_first)], narrowed := true }
def BufferReadsUptoSaid : Prop := bufferReadsUptoRow.holds Tryz.pinned (OpenSpec.upto bufferReadsSpec)

/-- 'copyistlaw20.BufferApart', WHERE WHAT IT READS IS OF BULK AT MOST 1048576: true; the input reads as it did. -/
def bufferApartUptoRow : OpenClaim := { program := "ytkpoodjhjfmfjaagreatdoor", sum := "15c26e7b9a8b53997fe858c48d6335530a16f9d0f5ef3b023b1fe12b3400df2d", func := "copyist/copyistlaw20.BufferApart", spec := "bufferApart", inPlace := ["slices.overlaps[int]", "slices.overlaps[copyist/props.piece]", "slices.overlaps[copyist/api.Prop]", "maps.clone"], unfollowed := true, recurses := true, named := ["unicode/utf8.first", "unicode/utf8.acceptRanges", "copyist/undo.rules"], apart := false, laid := [("unicode/utf8.acceptRanges", laid_unicode_utf8_acceptRanges), ("copyist/undo.rules", laid_copyist_undo_rules), ("unicode/utf8.first", laid_unicode_utf8_first)], narrowed := true }
def BufferApartUptoSaid : Prop := bufferApartUptoRow.holds Tryz.pinned (OpenSpec.upto bufferApartSpec)

end Rows
end Go.Proofs.YtkpoodjhjfmfjaaGreatDoor
