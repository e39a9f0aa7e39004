/-
  NARROWER THAN 'FOR EVERY INPUT', by the rows' own cells (each row's printed sentence says how): ColumnLisps: laid · ColumnFills: laid · ColumnIndents: laid.
  DERIVED. THE GIVEN ROWS OF THIS SEAT. 3 by the template 'for every input the law returns true; each argument reads behind the call as it read before'; 0 by the template 'total and deterministic' (their statements: YtphdkcdkhklicaaGreatDoorTotals.lean).
  GIVEN WITH THE SEED: the statements are not yours to turn. If you find one false, say at which input.
  Laid BY PROGRAM, IN A SANDBOX (cutbox-rows.mjs): the forced cells as the released guide's own fill.sh prints them over the translation ce9369cbb1e6356c… (all of the seat's roots in one cut). By AI agents, Wed Nov 11 2026. No macro, syntax, notation, axiom, sorry.
-/
import Derived.Test.YtphdkcdkhklicaaGreatDoorChecked
import GoSem.PinnedTables
import GoSem.Claim
import GoSem.ClaimJoined
import GoSem.ClaimMapViews
import Derived.JoinedTies
import Derived.KernelRfl
namespace Go.Proofs.YtphdkcdkhklicaaGreatDoor
/- THE CELL 'sum', in the pinned program and in every row, IS THE sha256 OF THE DUMP (.gsa) THAT YtphdkcdkhklicaaGreatDoorProg.lean LOADS. Nothing in Lean hashes anything: it is a label: what it is worth is what the hold of that sum in a sandbox is worth. -/
noncomputable def Tryz.pinned : Pinned := { name := "ytphdkcdkhklicaagreatdoor", sum := "ce9369cbb1e6356c6b1a5fd11733603cdcdf6f9d4a80d051e81be0345bbc4f28", checked := Tryz.checked }
namespace Rows
def none {H : Type} : Left H := { results := [], args := [] }

/- WHAT THE LISTED PACKAGE-LEVEL VARIABLES READ AS WHEN THE CALL BEGINS. Each datum BY PROGRAM (the guide's laid-datum.mjs) off the statement by which the dump's own 'gosem.cut.vars' lays the variable. In a bare row this is a premise. The card (YtphdkcdkhklicaaGreatDoorCards.lean) ties it to the program's text. -/
def laid_unicode_utf8_acceptRanges {H : Type} : DataW H := .agg [.agg [.lit (.int .u8 128), .lit (.int .u8 191)], .agg [.lit (.int .u8 160), .lit (.int .u8 191)], .agg [.lit (.int .u8 128), .lit (.int .u8 159)], .agg [.lit (.int .u8 144), .lit (.int .u8 191)], .agg [.lit (.int .u8 128), .lit (.int .u8 143)], .agg [.lit (.int .u8 0), .lit (.int .u8 0)], .agg [.lit (.int .u8 0), .lit (.int .u8 0)], .agg [.lit (.int .u8 0), .lit (.int .u8 0)], .agg [.lit (.int .u8 0), .lit (.int .u8 0)], .agg [.lit (.int .u8 0), .lit (.int .u8 0)], .agg [.lit (.int .u8 0), .lit (.int .u8 0)], .agg [.lit (.int .u8 0), .lit (.int .u8 0)], .agg [.lit (.int .u8 0), .lit (.int .u8 0)], .agg [.lit (.int .u8 0), .lit (.int .u8 0)], .agg [.lit (.int .u8 0), .lit (.int .u8 0)], .agg [.lit (.int .u8 0), .lit (.int .u8 0)]]
def laid_copyist_undo_rules {H : Type} : DataW H := .agg [.agg [.lit (.bool false), .lit (.bool false), .lit (.bool false), .lit (.bool false)], .agg [.lit (.bool true), .lit (.bool true), .lit (.bool false), .lit (.bool false)], .agg [.lit (.bool true), .lit (.bool false), .lit (.bool false), .lit (.bool true)], .agg [.lit (.bool true), .lit (.bool false), .lit (.bool false), .lit (.bool false)], .agg [.lit (.bool true), .lit (.bool false), .lit (.bool false), .lit (.bool false)], .agg [.lit (.bool true), .lit (.bool true), .lit (.bool true), .lit (.bool false)], .agg [.lit (.bool false), .lit (.bool false), .lit (.bool false), .lit (.bool false)]]
/-- One of Go's own tables, pinned by name: the form's constant. -/
def laid_unicode_utf8_first : DataW Unit := Go.Pinned.utf8First

/-- 'copyistlaw24.ColumnLisps': WHATEVER THE INPUT: true; the input reads as it did. -/
def columnLispsSpec : ChangeSpec := { name := "columnLisps", fn := fun _ => fun
  | [d1, d2, d3, d4] => { results := [.lit (.bool true)], args := [d1, d2, d3, d4] }
  | _ => none }
def columnLispsRow : OpenClaim := { program := "ytphdkcdkhklicaagreatdoor", sum := "ce9369cbb1e6356c6b1a5fd11733603cdcdf6f9d4a80d051e81be0345bbc4f28", func := "copyist/copyistlaw24.ColumnLisps", spec := "columnLisps", inPlace := ["slices.overlaps[int]", "internal/bytealg.IndexByteString", "internal/abi.NoEscape", "internal/bytealg.MakeNoZero"], unfollowed := true, recurses := true, named := ["unicode/utf8.first", "unicode/utf8.acceptRanges", "copyist/undo.rules"], apart := false, laid := [("unicode/utf8.acceptRanges", laid_unicode_utf8_acceptRanges), ("copyist/undo.rules", laid_copyist_undo_rules), ("unicode/utf8.first", laid_unicode_utf8_first)] }
def ColumnLispsSaid : Prop := columnLispsRow.holds Tryz.pinned (OpenSpec.ofChange columnLispsSpec)

/-- ITS FALSE NEIGHBOUR: 'it returns false'. Refute it at one input. -/
def columnLispsWrong : ChangeSpec := { name := "columnLisps", fn := fun _ => fun
  | [d1, d2, d3, d4] => { results := [.lit (.bool false)], args := [d1, d2, d3, d4] }
  | _ => none }
def ColumnLispsWrongFalsely : Prop := columnLispsRow.holds Tryz.pinned (OpenSpec.ofChange columnLispsWrong)

/-- 'copyistlaw24.ColumnFills': WHATEVER THE INPUT: true; the input reads as it did. -/
def columnFillsSpec : ChangeSpec := { name := "columnFills", fn := fun _ => fun
  | [d1, d2, d3] => { results := [.lit (.bool true)], args := [d1, d2, d3] }
  | _ => none }
def columnFillsRow : OpenClaim := { program := "ytphdkcdkhklicaagreatdoor", sum := "ce9369cbb1e6356c6b1a5fd11733603cdcdf6f9d4a80d051e81be0345bbc4f28", func := "copyist/copyistlaw24.ColumnFills", spec := "columnFills", inPlace := ["slices.overlaps[int]", "internal/bytealg.IndexByteString", "internal/bytealg.IndexString", "internal/abi.NoEscape"], unfollowed := true, recurses := true, named := ["unicode/utf8.first", "unicode/utf8.acceptRanges", "copyist/undo.rules", "internal/bytealg.MaxLen"], apart := false, laid := [("unicode/utf8.acceptRanges", laid_unicode_utf8_acceptRanges), ("copyist/undo.rules", laid_copyist_undo_rules), ("unicode/utf8.first", laid_unicode_utf8_first)] }
def ColumnFillsSaid : Prop := columnFillsRow.holds Tryz.pinned (OpenSpec.ofChange columnFillsSpec)

/-- ITS FALSE NEIGHBOUR: 'it returns false'. Refute it at one input. -/
def columnFillsWrong : ChangeSpec := { name := "columnFills", fn := fun _ => fun
  | [d1, d2, d3] => { results := [.lit (.bool false)], args := [d1, d2, d3] }
  | _ => none }
def ColumnFillsWrongFalsely : Prop := columnFillsRow.holds Tryz.pinned (OpenSpec.ofChange columnFillsWrong)

/-- 'copyistlaw24.ColumnIndents': WHATEVER THE INPUT: true; the input reads as it did. -/
def columnIndentsSpec : ChangeSpec := { name := "columnIndents", fn := fun _ => fun
  | [d1, d2, d3, d4, d5] => { results := [.lit (.bool true)], args := [d1, d2, d3, d4, d5] }
  | _ => none }
def columnIndentsRow : OpenClaim := { program := "ytphdkcdkhklicaagreatdoor", sum := "ce9369cbb1e6356c6b1a5fd11733603cdcdf6f9d4a80d051e81be0345bbc4f28", func := "copyist/copyistlaw24.ColumnIndents", spec := "columnIndents", inPlace := ["slices.overlaps[int]", "internal/bytealg.IndexByteString", "internal/abi.NoEscape", "internal/bytealg.MakeNoZero", "slices.overlaps[copyist/props.piece]"], unfollowed := true, recurses := true, named := ["unicode/utf8.first", "unicode/utf8.acceptRanges", "copyist/undo.rules"], apart := false, laid := [("unicode/utf8.acceptRanges", laid_unicode_utf8_acceptRanges), ("copyist/undo.rules", laid_copyist_undo_rules), ("unicode/utf8.first", laid_unicode_utf8_first)] }
def ColumnIndentsSaid : Prop := columnIndentsRow.holds Tryz.pinned (OpenSpec.ofChange columnIndentsSpec)

/-- ITS FALSE NEIGHBOUR: 'it returns false'. Refute it at one input. -/
def columnIndentsWrong : ChangeSpec := { name := "columnIndents", fn := fun _ => fun
  | [d1, d2, d3, d4, d5] => { results := [.lit (.bool false)], args := [d1, d2, d3, d4, d5] }
  | _ => none }
def ColumnIndentsWrongFalsely : Prop := columnIndentsRow.holds Tryz.pinned (OpenSpec.ofChange columnIndentsWrong)

/- THE SECOND FORM. 'bulk': how many values and letters a reading holds, each counted each time it is reached (what is shared counts as often as it is met; a slice's spare places count too). A statement '..UptoSaid' is the law's where the arguments, and the package variables that the reading takes, are together of bulk at most 1048576: NARROWER than '..Said'. Prove '..Said' where nothing that the law and all that it calls make is longer than what came in: it says more and counts as full. Else prove '..UptoSaid'. A law counts once. -/
mutual
def uptoBulk {H : Type} : DataW H → Nat
  | .lit (.string bytes) => bytes.length + 1
  | .lit _ => 1
  | .nil => 1
  | .ptr d => uptoBulk d + 1
  | .slice elems spare => uptoBulkAll elems + uptoBulkAll spare + 1
  | .agg parts => uptoBulkAll parts + 1
  | .iface _ d => uptoBulk d + 1
  | .map entries => uptoBulkEntries entries + 1
  | .held _ => 1
def uptoBulkAll {H : Type} : List (DataW H) → Nat
  | [] => 0
  | d :: r => uptoBulk d + uptoBulkAll r
def uptoBulkEntries {H : Type} : List (Lit × DataW H) → Nat
  | [] => 0
  | x :: r => uptoBulkEntry x + uptoBulkEntries r
def uptoBulkEntry {H : Type} : Lit × DataW H → Nat
  | (.string bytes, d) => bytes.length + uptoBulk d + 1
  | (_, d) => uptoBulk d + 1
 end
def uptoSmall : (H : Type) → List (DataW H) → Bool := fun _ ds => decide (uptoBulkAll ds ≤ 1048576)
def OpenSpec.upto (s : _root_.Go.ChangeSpec) : _root_.Go.OpenSpec := { _root_.Go.OpenSpec.ofChange s with cond := some uptoSmall }

/-- 'copyistlaw24.ColumnLisps', WHERE WHAT IT READS IS OF BULK AT MOST 1048576: true; the input reads as it did. -/
def columnLispsUptoRow : OpenClaim := { program := "ytphdkcdkhklicaagreatdoor", sum := "ce9369cbb1e6356c6b1a5fd11733603cdcdf6f9d4a80d051e81be0345bbc4f28", func := "copyist/copyistlaw24.ColumnLisps", spec := "columnLisps", inPlace := ["slices.overlaps[int]", "internal/bytealg.IndexByteString", "internal/abi.NoEscape", "internal/bytealg.MakeNoZero"], unfollowed := true, recurses := true, named := ["unicode/utf8.first", "unicode/utf8.acceptRanges", "copyist/undo.rules"], apart := false, laid := [("unicode/utf8.acceptRanges", laid_unicode_utf8_acceptRanges), ("copyist/undo.rules", laid_copyist_undo_rules), ("unicode/utf8.first", laid_unicode_utf8_first)], narrowed := true }
def ColumnLispsUptoSaid : Prop := columnLispsUptoRow.holds Tryz.pinned (OpenSpec.upto columnLispsSpec)

/-- 'copyistlaw24.ColumnFills', WHERE WHAT IT READS IS OF BULK AT MOST 1048576: true; the input reads as it did. -/
def columnFillsUptoRow : OpenClaim := { program := "ytphdkcdkhklicaagreatdoor", sum := "ce9369cbb1e6356c6b1a5fd11733603cdcdf6f9d4a80d051e81be0345bbc4f28", func := "copyist/copyistlaw24.ColumnFills", spec := "columnFills", inPlace := ["slices.overlaps[int]", "internal/bytealg.IndexByteString", "internal/bytealg.IndexString", "internal/abi.NoEscape"], unfollowed := true, recurses := true, named := ["unicode/utf8.first", "unicode/utf8.acceptRanges", "copyist/undo.rules", "internal/bytealg.MaxLen"], apart := false, laid := [("unicode/utf8.acceptRanges", laid_unicode_utf8_acceptRanges), ("copyist/undo.rules", laid_copyist_undo_rules), ("unicode/utf8.first", laid_unicode_utf8_first)], narrowed := true }
def ColumnFillsUptoSaid : Prop := columnFillsUptoRow.holds Tryz.pinned (OpenSpec.upto columnFillsSpec)

/-- 'copyistlaw24.ColumnIndents', WHERE WHAT IT READS IS OF BULK AT MOST 1048576: true; the input reads as it did. -/
def columnIndentsUptoRow : OpenClaim := { program := "ytphdkcdkhklicaagreatdoor", sum := "ce9369cbb1e6356c6b1a5fd11733603cdcdf6f9d4a80d051e81be0345bbc4f28", func := "copyist/copyistlaw24.ColumnIndents", spec := "columnIndents", inPlace := ["slices.overlaps[int]", "internal/bytealg.IndexByteString", "internal/abi.NoEscape", "internal/bytealg.MakeNoZero", "slices.overlaps[copyist/props.piece]"], unfollowed := true, recurses := true, named := ["unicode/utf8.first", "unicode/utf8.acceptRanges", "copyist/undo.rules"], apart := false, laid := [("unicode/utf8.acceptRanges", laid_unicode_utf8_acceptRanges), ("copyist/undo.rules", laid_copyist_undo_rules), ("unicode/utf8.first", laid_unicode_utf8_first)], narrowed := true }
def ColumnIndentsUptoSaid : Prop := columnIndentsUptoRow.holds Tryz.pinned (OpenSpec.upto columnIndentsSpec)

end Rows
end Go.Proofs.YtphdkcdkhklicaaGreatDoor
