/-
  No cell of these rows narrows 'for every input' (looked for: loops, veiled, ifaces, maps, wideKeys, modest, calm, conditions, laid).
  DERIVED. THE GIVEN ROWS OF THIS SEAT. 7 by the template 'for every input the law returns true; each argument reads behind the call as it read before'; 0 by the template 'total and deterministic' (their statements: YthjkdeocdhdkaaaTotals.lean).
  GIVEN WITH THE SEED: the statements are not yours to turn. If you find one false, say at which input.
  Laid BY PROGRAM, IN A SANDBOX (cutbox-rows.mjs): the forced cells as the released guide's own fill.sh prints them over the translation a1ef4ac84519767d… (all of the seat's roots in one cut). By AI agents, Wed Nov 11 2026. No macro, syntax, notation, axiom, sorry.
-/
import Derived.Test.YthjkdeocdhdkaaaChecked
import GoSem.Claim
import GoSem.ClaimJoined
import GoSem.ClaimMapViews
import Derived.JoinedTies
import Derived.KernelRfl
namespace Go.Proofs.Ythjkdeocdhdkaaa
/- THE CELL 'sum', in the pinned program and in every row, IS THE sha256 OF THE DUMP (.gsa) THAT YthjkdeocdhdkaaaProg.lean LOADS. Nothing in Lean hashes anything: it is a label: what it is worth is what the hold of that sum in a sandbox is worth. -/
noncomputable def Try.pinned : Pinned := { name := "ythjkdeocdhdkaaa", sum := "a1ef4ac84519767d0b34feccc31386a030b1e91412e1cf67e2db466ed3e8ba94", checked := Try.checked }
namespace Rows
def none {H : Type} : Left H := { results := [], args := [] }

/-- 'copyistlaw18.OversText': WHATEVER THE INPUT: true; the input reads as it did. -/
def oversTextSpec : ChangeSpec := { name := "oversText", fn := fun _ => fun
  | [d1, d2, d3, d4, d5, d6] => { results := [.lit (.bool true)], args := [d1, d2, d3, d4, d5, d6] }
  | _ => none }
def oversTextRow : OpenClaim := { program := "ythjkdeocdhdkaaa", sum := "a1ef4ac84519767d0b34feccc31386a030b1e91412e1cf67e2db466ed3e8ba94", func := "copyist/copyistlaw18.OversText", spec := "oversText", inPlace := ["slices.overlaps[copyist/api.Prop]"], unfollowed := true, recurses := true, apart := false }
def OversTextSaid : Prop := oversTextRow.holds Try.pinned (OpenSpec.ofChange oversTextSpec)

/-- ITS FALSE NEIGHBOUR: 'it returns false'. Refute it at one input. -/
def oversTextWrong : ChangeSpec := { name := "oversText", fn := fun _ => fun
  | [d1, d2, d3, d4, d5, d6] => { results := [.lit (.bool false)], args := [d1, d2, d3, d4, d5, d6] }
  | _ => none }
def OversTextWrongFalsely : Prop := oversTextRow.holds Try.pinned (OpenSpec.ofChange oversTextWrong)

/-- 'copyistlaw18.OversNames': WHATEVER THE INPUT: true; the input reads as it did. -/
def oversNamesSpec : ChangeSpec := { name := "oversNames", fn := fun _ => fun
  | [] => { results := [.lit (.bool true)], args := [] }
  | _ => none }
def oversNamesRow : OpenClaim := { program := "ythjkdeocdhdkaaa", sum := "a1ef4ac84519767d0b34feccc31386a030b1e91412e1cf67e2db466ed3e8ba94", func := "copyist/copyistlaw18.OversNames", spec := "oversNames", inPlace := ["slices.overlaps[copyist/api.Prop]"], unfollowed := true, recurses := true, apart := false }
def OversNamesSaid : Prop := oversNamesRow.holds Try.pinned (OpenSpec.ofChange oversNamesSpec)

/-- ITS FALSE NEIGHBOUR: 'it returns false'. Refute it at one input. -/
def oversNamesWrong : ChangeSpec := { name := "oversNames", fn := fun _ => fun
  | [] => { results := [.lit (.bool false)], args := [] }
  | _ => none }
def OversNamesWrongFalsely : Prop := oversNamesRow.holds Try.pinned (OpenSpec.ofChange oversNamesWrong)

/-- 'copyistlaw18.OversBack': WHATEVER THE INPUT: true; the input reads as it did. -/
def oversBackSpec : ChangeSpec := { name := "oversBack", fn := fun _ => fun
  | [d1, d2, d3] => { results := [.lit (.bool true)], args := [d1, d2, d3] }
  | _ => none }
def oversBackRow : OpenClaim := { program := "ythjkdeocdhdkaaa", sum := "a1ef4ac84519767d0b34feccc31386a030b1e91412e1cf67e2db466ed3e8ba94", func := "copyist/copyistlaw18.OversBack", spec := "oversBack", inPlace := ["slices.overlaps[copyist/api.Prop]"], unfollowed := true, recurses := true, apart := false }
def OversBackSaid : Prop := oversBackRow.holds Try.pinned (OpenSpec.ofChange oversBackSpec)

/-- ITS FALSE NEIGHBOUR: 'it returns false'. Refute it at one input. -/
def oversBackWrong : ChangeSpec := { name := "oversBack", fn := fun _ => fun
  | [d1, d2, d3] => { results := [.lit (.bool false)], args := [d1, d2, d3] }
  | _ => none }
def OversBackWrongFalsely : Prop := oversBackRow.holds Try.pinned (OpenSpec.ofChange oversBackWrong)

/-- 'copyistlaw18.OversIn': WHATEVER THE INPUT: true; the input reads as it did. -/
def oversInSpec : ChangeSpec := { name := "oversIn", fn := fun _ => fun
  | [d1, d2, d3] => { results := [.lit (.bool true)], args := [d1, d2, d3] }
  | _ => none }
def oversInRow : OpenClaim := { program := "ythjkdeocdhdkaaa", sum := "a1ef4ac84519767d0b34feccc31386a030b1e91412e1cf67e2db466ed3e8ba94", func := "copyist/copyistlaw18.OversIn", spec := "oversIn", inPlace := ["slices.overlaps[copyist/api.Prop]"], unfollowed := true, recurses := true, apart := false }
def OversInSaid : Prop := oversInRow.holds Try.pinned (OpenSpec.ofChange oversInSpec)

/-- ITS FALSE NEIGHBOUR: 'it returns false'. Refute it at one input. -/
def oversInWrong : ChangeSpec := { name := "oversIn", fn := fun _ => fun
  | [d1, d2, d3] => { results := [.lit (.bool false)], args := [d1, d2, d3] }
  | _ => none }
def OversInWrongFalsely : Prop := oversInRow.holds Try.pinned (OpenSpec.ofChange oversInWrong)

/-- 'copyistlaw18.OversNext': WHATEVER THE INPUT: true; the input reads as it did. -/
def oversNextSpec : ChangeSpec := { name := "oversNext", fn := fun _ => fun
  | [d1, d2, d3] => { results := [.lit (.bool true)], args := [d1, d2, d3] }
  | _ => none }
def oversNextRow : OpenClaim := { program := "ythjkdeocdhdkaaa", sum := "a1ef4ac84519767d0b34feccc31386a030b1e91412e1cf67e2db466ed3e8ba94", func := "copyist/copyistlaw18.OversNext", spec := "oversNext", inPlace := ["slices.overlaps[copyist/api.Prop]"], unfollowed := true, recurses := true, apart := false }
def OversNextSaid : Prop := oversNextRow.holds Try.pinned (OpenSpec.ofChange oversNextSpec)

/-- ITS FALSE NEIGHBOUR: 'it returns false'. Refute it at one input. -/
def oversNextWrong : ChangeSpec := { name := "oversNext", fn := fun _ => fun
  | [d1, d2, d3] => { results := [.lit (.bool false)], args := [d1, d2, d3] }
  | _ => none }
def OversNextWrongFalsely : Prop := oversNextRow.holds Try.pinned (OpenSpec.ofChange oversNextWrong)

/-- 'copyistlaw18.OversWins': WHATEVER THE INPUT: true; the input reads as it did. -/
def oversWinsSpec : ChangeSpec := { name := "oversWins", fn := fun _ => fun
  | [d1, d2, d3] => { results := [.lit (.bool true)], args := [d1, d2, d3] }
  | _ => none }
def oversWinsRow : OpenClaim := { program := "ythjkdeocdhdkaaa", sum := "a1ef4ac84519767d0b34feccc31386a030b1e91412e1cf67e2db466ed3e8ba94", func := "copyist/copyistlaw18.OversWins", spec := "oversWins", inPlace := ["slices.overlaps[copyist/api.Prop]"], unfollowed := true, recurses := true, apart := false }
def OversWinsSaid : Prop := oversWinsRow.holds Try.pinned (OpenSpec.ofChange oversWinsSpec)

/-- ITS FALSE NEIGHBOUR: 'it returns false'. Refute it at one input. -/
def oversWinsWrong : ChangeSpec := { name := "oversWins", fn := fun _ => fun
  | [d1, d2, d3] => { results := [.lit (.bool false)], args := [d1, d2, d3] }
  | _ => none }
def OversWinsWrongFalsely : Prop := oversWinsRow.holds Try.pinned (OpenSpec.ofChange oversWinsWrong)

/-- 'copyistlaw18.OversApart': WHATEVER THE INPUT: true; the input reads as it did. -/
def oversApartSpec : ChangeSpec := { name := "oversApart", fn := fun _ => fun
  | [d1, d2] => { results := [.lit (.bool true)], args := [d1, d2] }
  | _ => none }
def oversApartRow : OpenClaim := { program := "ythjkdeocdhdkaaa", sum := "a1ef4ac84519767d0b34feccc31386a030b1e91412e1cf67e2db466ed3e8ba94", func := "copyist/copyistlaw18.OversApart", spec := "oversApart", inPlace := ["slices.overlaps[copyist/api.Prop]"], unfollowed := true, recurses := true, apart := false }
def OversApartSaid : Prop := oversApartRow.holds Try.pinned (OpenSpec.ofChange oversApartSpec)

/-- ITS FALSE NEIGHBOUR: 'it returns false'. Refute it at one input. -/
def oversApartWrong : ChangeSpec := { name := "oversApart", fn := fun _ => fun
  | [d1, d2] => { results := [.lit (.bool false)], args := [d1, d2] }
  | _ => none }
def OversApartWrongFalsely : Prop := oversApartRow.holds Try.pinned (OpenSpec.ofChange oversApartWrong)

/- THE SECOND FORM. 'bulk': how many values and letters a reading holds, each counted each time it is reached (what is shared counts as often as it is met; a slice's spare places count too). A statement '..UptoSaid' is the law's where the arguments, and the package variables that the reading takes, are together of bulk at most 1048576: NARROWER than '..Said'. Prove '..Said' where nothing that the law and all that it calls make is longer than what came in: it says more and counts as full. Else prove '..UptoSaid'. A law counts once. -/
mutual
def uptoBulk {H : Type} : DataW H → Nat
  | .lit (.string bytes) => bytes.length + 1
  | .lit _ => 1
  | .nil => 1
  | .ptr d => uptoBulk d + 1
  | .slice elems spare => uptoBulkAll elems + uptoBulkAll spare + 1
  | .agg parts => uptoBulkAll parts + 1
  | .iface _ d => uptoBulk d + 1
  | .map entries => uptoBulkEntries entries + 1
  | .held _ => 1
def uptoBulkAll {H : Type} : List (DataW H) → Nat
  | [] => 0
  | d :: r => uptoBulk d + uptoBulkAll r
def uptoBulkEntries {H : Type} : List (Lit × DataW H) → Nat
  | [] => 0
  | x :: r => uptoBulkEntry x + uptoBulkEntries r
def uptoBulkEntry {H : Type} : Lit × DataW H → Nat
  | (.string bytes, d) => bytes.length + uptoBulk d + 1
  | (_, d) => uptoBulk d + 1
 end
def uptoSmall : (H : Type) → List (DataW H) → Bool := fun _ ds => decide (uptoBulkAll ds ≤ 1048576)
def OpenSpec.upto (s : _root_.Go.ChangeSpec) : _root_.Go.OpenSpec := { _root_.Go.OpenSpec.ofChange s with cond := some uptoSmall }

/-- 'copyistlaw18.OversText', WHERE WHAT IT READS IS OF BULK AT MOST 1048576: true; the input reads as it did. -/
def oversTextUptoRow : OpenClaim := { program := "ythjkdeocdhdkaaa", sum := "a1ef4ac84519767d0b34feccc31386a030b1e91412e1cf67e2db466ed3e8ba94", func := "copyist/copyistlaw18.OversText", spec := "oversText", inPlace := ["slices.overlaps[copyist/api.Prop]"], unfollowed := true, recurses := true, apart := false, narrowed := true }
def OversTextUptoSaid : Prop := oversTextUptoRow.holds Try.pinned (OpenSpec.upto oversTextSpec)

/-- 'copyistlaw18.OversNames', WHERE WHAT IT READS IS OF BULK AT MOST 1048576: true; the input reads as it did. -/
def oversNamesUptoRow : OpenClaim := { program := "ythjkdeocdhdkaaa", sum := "a1ef4ac84519767d0b34feccc31386a030b1e91412e1cf67e2db466ed3e8ba94", func := "copyist/copyistlaw18.OversNames", spec := "oversNames", inPlace := ["slices.overlaps[copyist/api.Prop]"], unfollowed := true, recurses := true, apart := false, narrowed := true }
def OversNamesUptoSaid : Prop := oversNamesUptoRow.holds Try.pinned (OpenSpec.upto oversNamesSpec)

/-- 'copyistlaw18.OversBack', WHERE WHAT IT READS IS OF BULK AT MOST 1048576: true; the input reads as it did. -/
def oversBackUptoRow : OpenClaim := { program := "ythjkdeocdhdkaaa", sum := "a1ef4ac84519767d0b34feccc31386a030b1e91412e1cf67e2db466ed3e8ba94", func := "copyist/copyistlaw18.OversBack", spec := "oversBack", inPlace := ["slices.overlaps[copyist/api.Prop]"], unfollowed := true, recurses := true, apart := false, narrowed := true }
def OversBackUptoSaid : Prop := oversBackUptoRow.holds Try.pinned (OpenSpec.upto oversBackSpec)

/-- 'copyistlaw18.OversIn', WHERE WHAT IT READS IS OF BULK AT MOST 1048576: true; the input reads as it did. -/
def oversInUptoRow : OpenClaim := { program := "ythjkdeocdhdkaaa", sum := "a1ef4ac84519767d0b34feccc31386a030b1e91412e1cf67e2db466ed3e8ba94", func := "copyist/copyistlaw18.OversIn", spec := "oversIn", inPlace := ["slices.overlaps[copyist/api.Prop]"], unfollowed := true, recurses := true, apart := false, narrowed := true }
def OversInUptoSaid : Prop := oversInUptoRow.holds Try.pinned (OpenSpec.upto oversInSpec)

/-- 'copyistlaw18.OversNext', WHERE WHAT IT READS IS OF BULK AT MOST 1048576: true; the input reads as it did. -/
def oversNextUptoRow : OpenClaim := { program := "ythjkdeocdhdkaaa", sum := "a1ef4ac84519767d0b34feccc31386a030b1e91412e1cf67e2db466ed3e8ba94", func := "copyist/copyistlaw18.OversNext", spec := "oversNext", inPlace := ["slices.overlaps[copyist/api.Prop]"], unfollowed := true, recurses := true, apart := false, narrowed := true }
def OversNextUptoSaid : Prop := oversNextUptoRow.holds Try.pinned (OpenSpec.upto oversNextSpec)

/-- 'copyistlaw18.OversWins', WHERE WHAT IT READS IS OF BULK AT MOST 1048576: true; the input reads as it did. -/
def oversWinsUptoRow : OpenClaim := { program := "ythjkdeocdhdkaaa", sum := "a1ef4ac84519767d0b34feccc31386a030b1e91412e1cf67e2db466ed3e8ba94", func := "copyist/copyistlaw18.OversWins", spec := "oversWins", inPlace := ["slices.overlaps[copyist/api.Prop]"], unfollowed := true, recurses := true, apart := false, narrowed := true }
def OversWinsUptoSaid : Prop := oversWinsUptoRow.holds Try.pinned (OpenSpec.upto oversWinsSpec)

/-- 'copyistlaw18.OversApart', WHERE WHAT IT READS IS OF BULK AT MOST 1048576: true; the input reads as it did. -/
def oversApartUptoRow : OpenClaim := { program := "ythjkdeocdhdkaaa", sum := "a1ef4ac84519767d0b34feccc31386a030b1e91412e1cf67e2db466ed3e8ba94", func := "copyist/copyistlaw18.OversApart", spec := "oversApart", inPlace := ["slices.overlaps[copyist/api.Prop]"], unfollowed := true, recurses := true, apart := false, narrowed := true }
def OversApartUptoSaid : Prop := oversApartUptoRow.holds Try.pinned (OpenSpec.upto oversApartSpec)

end Rows
end Go.Proofs.Ythjkdeocdhdkaaa
