/-
  No cell of these rows narrows 'for every input' (looked for: loops, veiled, ifaces, maps, wideKeys, modest, calm, conditions, laid).
  DERIVED. THE GIVEN ROWS OF THIS SEAT. 8 by the template 'for every input the law returns true; each argument reads behind the call as it read before'; 0 by the template 'total and deterministic' (their statements: YtlnpjdihdemgmaaTotals.lean).
  GIVEN WITH THE SEED: the statements are not yours to turn. If you find one false, say at which input.
  Laid BY PROGRAM, IN A SANDBOX (cutbox-rows.mjs): the forced cells as the released guide's own fill.sh prints them over the translation 75d4617d73899971… (all of the seat's roots in one cut). By AI agents, Wed Nov 11 2026. No macro, syntax, notation, axiom, sorry.
-/
import Derived.Test.YtlnpjdihdemgmaaChecked
import GoSem.Claim
import GoSem.ClaimJoined
import GoSem.ClaimMapViews
import Derived.JoinedTies
import Derived.KernelRfl
namespace Go.Proofs.Ytlnpjdihdemgmaa
/- THE CELL 'sum', in the pinned program and in every row, IS THE sha256 OF THE DUMP (.gsa) THAT YtlnpjdihdemgmaaProg.lean LOADS. Nothing in Lean hashes anything: it is a label: what it is worth is what the hold of that sum in a sandbox is worth. -/
noncomputable def Try.pinned : Pinned := { name := "ytlnpjdihdemgmaa", sum := "75d4617d73899971911b951c8de72f9443c07c1522ca16a523d4dace90d221c2", checked := Try.checked }
namespace Rows
def none {H : Type} : Left H := { results := [], args := [] }

/-- 'copyistlaw16.MarksText': WHATEVER THE INPUT: true; the input reads as it did. -/
def marksTextSpec : ChangeSpec := { name := "marksText", fn := fun _ => fun
  | [d1, d2, d3, d4] => { results := [.lit (.bool true)], args := [d1, d2, d3, d4] }
  | _ => none }
def marksTextRow : OpenClaim := { program := "ytlnpjdihdemgmaa", sum := "75d4617d73899971911b951c8de72f9443c07c1522ca16a523d4dace90d221c2", func := "copyist/copyistlaw16.MarksText", spec := "marksText", unfollowed := true, recurses := true, apart := false }
def MarksTextSaid : Prop := marksTextRow.holds Try.pinned (OpenSpec.ofChange marksTextSpec)

/-- ITS FALSE NEIGHBOUR: 'it returns false'. Refute it at one input. -/
def marksTextWrong : ChangeSpec := { name := "marksText", fn := fun _ => fun
  | [d1, d2, d3, d4] => { results := [.lit (.bool false)], args := [d1, d2, d3, d4] }
  | _ => none }
def MarksTextWrongFalsely : Prop := marksTextRow.holds Try.pinned (OpenSpec.ofChange marksTextWrong)

/-- 'copyistlaw16.MarksFull': WHATEVER THE INPUT: true; the input reads as it did. -/
def marksFullSpec : ChangeSpec := { name := "marksFull", fn := fun _ => fun
  | [d1, d2] => { results := [.lit (.bool true)], args := [d1, d2] }
  | _ => none }
def marksFullRow : OpenClaim := { program := "ytlnpjdihdemgmaa", sum := "75d4617d73899971911b951c8de72f9443c07c1522ca16a523d4dace90d221c2", func := "copyist/copyistlaw16.MarksFull", spec := "marksFull", unfollowed := true, recurses := true, apart := false }
def MarksFullSaid : Prop := marksFullRow.holds Try.pinned (OpenSpec.ofChange marksFullSpec)

/-- ITS FALSE NEIGHBOUR: 'it returns false'. Refute it at one input. -/
def marksFullWrong : ChangeSpec := { name := "marksFull", fn := fun _ => fun
  | [d1, d2] => { results := [.lit (.bool false)], args := [d1, d2] }
  | _ => none }
def MarksFullWrongFalsely : Prop := marksFullRow.holds Try.pinned (OpenSpec.ofChange marksFullWrong)

/-- 'copyistlaw16.MarksNames': WHATEVER THE INPUT: true; the input reads as it did. -/
def marksNamesSpec : ChangeSpec := { name := "marksNames", fn := fun _ => fun
  | [] => { results := [.lit (.bool true)], args := [] }
  | _ => none }
def marksNamesRow : OpenClaim := { program := "ytlnpjdihdemgmaa", sum := "75d4617d73899971911b951c8de72f9443c07c1522ca16a523d4dace90d221c2", func := "copyist/copyistlaw16.MarksNames", spec := "marksNames", unfollowed := true, recurses := true, apart := false }
def MarksNamesSaid : Prop := marksNamesRow.holds Try.pinned (OpenSpec.ofChange marksNamesSpec)

/-- ITS FALSE NEIGHBOUR: 'it returns false'. Refute it at one input. -/
def marksNamesWrong : ChangeSpec := { name := "marksNames", fn := fun _ => fun
  | [] => { results := [.lit (.bool false)], args := [] }
  | _ => none }
def MarksNamesWrongFalsely : Prop := marksNamesRow.holds Try.pinned (OpenSpec.ofChange marksNamesWrong)

/-- 'copyistlaw16.MarksOrder': WHATEVER THE INPUT: true; the input reads as it did. -/
def marksOrderSpec : ChangeSpec := { name := "marksOrder", fn := fun _ => fun
  | [d1, d2, d3, d4, d5] => { results := [.lit (.bool true)], args := [d1, d2, d3, d4, d5] }
  | _ => none }
def marksOrderRow : OpenClaim := { program := "ytlnpjdihdemgmaa", sum := "75d4617d73899971911b951c8de72f9443c07c1522ca16a523d4dace90d221c2", func := "copyist/copyistlaw16.MarksOrder", spec := "marksOrder", unfollowed := true, recurses := true, apart := false }
def MarksOrderSaid : Prop := marksOrderRow.holds Try.pinned (OpenSpec.ofChange marksOrderSpec)

/-- ITS FALSE NEIGHBOUR: 'it returns false'. Refute it at one input. -/
def marksOrderWrong : ChangeSpec := { name := "marksOrder", fn := fun _ => fun
  | [d1, d2, d3, d4, d5] => { results := [.lit (.bool false)], args := [d1, d2, d3, d4, d5] }
  | _ => none }
def MarksOrderWrongFalsely : Prop := marksOrderRow.holds Try.pinned (OpenSpec.ofChange marksOrderWrong)

/-- 'copyistlaw16.MarksBack': WHATEVER THE INPUT: true; the input reads as it did. -/
def marksBackSpec : ChangeSpec := { name := "marksBack", fn := fun _ => fun
  | [d1, d2, d3, d4] => { results := [.lit (.bool true)], args := [d1, d2, d3, d4] }
  | _ => none }
def marksBackRow : OpenClaim := { program := "ytlnpjdihdemgmaa", sum := "75d4617d73899971911b951c8de72f9443c07c1522ca16a523d4dace90d221c2", func := "copyist/copyistlaw16.MarksBack", spec := "marksBack", unfollowed := true, recurses := true, apart := false }
def MarksBackSaid : Prop := marksBackRow.holds Try.pinned (OpenSpec.ofChange marksBackSpec)

/-- ITS FALSE NEIGHBOUR: 'it returns false'. Refute it at one input. -/
def marksBackWrong : ChangeSpec := { name := "marksBack", fn := fun _ => fun
  | [d1, d2, d3, d4] => { results := [.lit (.bool false)], args := [d1, d2, d3, d4] }
  | _ => none }
def MarksBackWrongFalsely : Prop := marksBackRow.holds Try.pinned (OpenSpec.ofChange marksBackWrong)

/-- 'copyistlaw16.MarksIn': WHATEVER THE INPUT: true; the input reads as it did. -/
def marksInSpec : ChangeSpec := { name := "marksIn", fn := fun _ => fun
  | [d1, d2, d3] => { results := [.lit (.bool true)], args := [d1, d2, d3] }
  | _ => none }
def marksInRow : OpenClaim := { program := "ytlnpjdihdemgmaa", sum := "75d4617d73899971911b951c8de72f9443c07c1522ca16a523d4dace90d221c2", func := "copyist/copyistlaw16.MarksIn", spec := "marksIn", unfollowed := true, recurses := true, apart := false }
def MarksInSaid : Prop := marksInRow.holds Try.pinned (OpenSpec.ofChange marksInSpec)

/-- ITS FALSE NEIGHBOUR: 'it returns false'. Refute it at one input. -/
def marksInWrong : ChangeSpec := { name := "marksIn", fn := fun _ => fun
  | [d1, d2, d3] => { results := [.lit (.bool false)], args := [d1, d2, d3] }
  | _ => none }
def MarksInWrongFalsely : Prop := marksInRow.holds Try.pinned (OpenSpec.ofChange marksInWrong)

/-- 'copyistlaw16.MarksScript': WHATEVER THE INPUT: true; the input reads as it did. -/
def marksScriptSpec : ChangeSpec := { name := "marksScript", fn := fun _ => fun
  | [d1, d2, d3] => { results := [.lit (.bool true)], args := [d1, d2, d3] }
  | _ => none }
def marksScriptRow : OpenClaim := { program := "ytlnpjdihdemgmaa", sum := "75d4617d73899971911b951c8de72f9443c07c1522ca16a523d4dace90d221c2", func := "copyist/copyistlaw16.MarksScript", spec := "marksScript", inPlace := ["maps.clone"], unfollowed := true, recurses := true, apart := false }
def MarksScriptSaid : Prop := marksScriptRow.holds Try.pinned (OpenSpec.ofChange marksScriptSpec)

/-- ITS FALSE NEIGHBOUR: 'it returns false'. Refute it at one input. -/
def marksScriptWrong : ChangeSpec := { name := "marksScript", fn := fun _ => fun
  | [d1, d2, d3] => { results := [.lit (.bool false)], args := [d1, d2, d3] }
  | _ => none }
def MarksScriptWrongFalsely : Prop := marksScriptRow.holds Try.pinned (OpenSpec.ofChange marksScriptWrong)

/-- 'copyistlaw16.MarksApart': WHATEVER THE INPUT: true; the input reads as it did. -/
def marksApartSpec : ChangeSpec := { name := "marksApart", fn := fun _ => fun
  | [d1, d2] => { results := [.lit (.bool true)], args := [d1, d2] }
  | _ => none }
def marksApartRow : OpenClaim := { program := "ytlnpjdihdemgmaa", sum := "75d4617d73899971911b951c8de72f9443c07c1522ca16a523d4dace90d221c2", func := "copyist/copyistlaw16.MarksApart", spec := "marksApart", inPlace := ["maps.clone"], unfollowed := true, recurses := true, apart := false }
def MarksApartSaid : Prop := marksApartRow.holds Try.pinned (OpenSpec.ofChange marksApartSpec)

/-- ITS FALSE NEIGHBOUR: 'it returns false'. Refute it at one input. -/
def marksApartWrong : ChangeSpec := { name := "marksApart", fn := fun _ => fun
  | [d1, d2] => { results := [.lit (.bool false)], args := [d1, d2] }
  | _ => none }
def MarksApartWrongFalsely : Prop := marksApartRow.holds Try.pinned (OpenSpec.ofChange marksApartWrong)

/- THE SECOND FORM. 'bulk': how many values and letters a reading holds, each counted each time it is reached (what is shared counts as often as it is met; a slice's spare places count too). A statement '..UptoSaid' is the law's where the arguments, and the package variables that the reading takes, are together of bulk at most 1048576: NARROWER than '..Said'. Prove '..Said' where nothing that the law and all that it calls make is longer than what came in: it says more and counts as full. Else prove '..UptoSaid'. A law counts once. -/
mutual
def uptoBulk {H : Type} : DataW H → Nat
  | .lit (.string bytes) => bytes.length + 1
  | .lit _ => 1
  | .nil => 1
  | .ptr d => uptoBulk d + 1
  | .slice elems spare => uptoBulkAll elems + uptoBulkAll spare + 1
  | .agg parts => uptoBulkAll parts + 1
  | .iface _ d => uptoBulk d + 1
  | .map entries => uptoBulkEntries entries + 1
  | .held _ => 1
def uptoBulkAll {H : Type} : List (DataW H) → Nat
  | [] => 0
  | d :: r => uptoBulk d + uptoBulkAll r
def uptoBulkEntries {H : Type} : List (Lit × DataW H) → Nat
  | [] => 0
  | x :: r => uptoBulkEntry x + uptoBulkEntries r
def uptoBulkEntry {H : Type} : Lit × DataW H → Nat
  | (.string bytes, d) => bytes.length + uptoBulk d + 1
  | (_, d) => uptoBulk d + 1
 end
def uptoSmall : (H : Type) → List (DataW H) → Bool := fun _ ds => decide (uptoBulkAll ds ≤ 1048576)
def OpenSpec.upto (s : _root_.Go.ChangeSpec) : _root_.Go.OpenSpec := { _root_.Go.OpenSpec.ofChange s with cond := some uptoSmall }

/-- 'copyistlaw16.MarksText', WHERE WHAT IT READS IS OF BULK AT MOST 1048576: true; the input reads as it did. -/
def marksTextUptoRow : OpenClaim := { program := "ytlnpjdihdemgmaa", sum := "75d4617d73899971911b951c8de72f9443c07c1522ca16a523d4dace90d221c2", func := "copyist/copyistlaw16.MarksText", spec := "marksText", unfollowed := true, recurses := true, apart := false, narrowed := true }
def MarksTextUptoSaid : Prop := marksTextUptoRow.holds Try.pinned (OpenSpec.upto marksTextSpec)

/-- 'copyistlaw16.MarksFull', WHERE WHAT IT READS IS OF BULK AT MOST 1048576: true; the input reads as it did. -/
def marksFullUptoRow : OpenClaim := { program := "ytlnpjdihdemgmaa", sum := "75d4617d73899971911b951c8de72f9443c07c1522ca16a523d4dace90d221c2", func := "copyist/copyistlaw16.MarksFull", spec := "marksFull", unfollowed := true, recurses := true, apart := false, narrowed := true }
def MarksFullUptoSaid : Prop := marksFullUptoRow.holds Try.pinned (OpenSpec.upto marksFullSpec)

/-- 'copyistlaw16.MarksNames', WHERE WHAT IT READS IS OF BULK AT MOST 1048576: true; the input reads as it did. -/
def marksNamesUptoRow : OpenClaim := { program := "ytlnpjdihdemgmaa", sum := "75d4617d73899971911b951c8de72f9443c07c1522ca16a523d4dace90d221c2", func := "copyist/copyistlaw16.MarksNames", spec := "marksNames", unfollowed := true, recurses := true, apart := false, narrowed := true }
def MarksNamesUptoSaid : Prop := marksNamesUptoRow.holds Try.pinned (OpenSpec.upto marksNamesSpec)

/-- 'copyistlaw16.MarksOrder', WHERE WHAT IT READS IS OF BULK AT MOST 1048576: true; the input reads as it did. -/
def marksOrderUptoRow : OpenClaim := { program := "ytlnpjdihdemgmaa", sum := "75d4617d73899971911b951c8de72f9443c07c1522ca16a523d4dace90d221c2", func := "copyist/copyistlaw16.MarksOrder", spec := "marksOrder", unfollowed := true, recurses := true, apart := false, narrowed := true }
def MarksOrderUptoSaid : Prop := marksOrderUptoRow.holds Try.pinned (OpenSpec.upto marksOrderSpec)

/-- 'copyistlaw16.MarksBack', WHERE WHAT IT READS IS OF BULK AT MOST 1048576: true; the input reads as it did. -/
def marksBackUptoRow : OpenClaim := { program := "ytlnpjdihdemgmaa", sum := "75d4617d73899971911b951c8de72f9443c07c1522ca16a523d4dace90d221c2", func := "copyist/copyistlaw16.MarksBack", spec := "marksBack", unfollowed := true, recurses := true, apart := false, narrowed := true }
def MarksBackUptoSaid : Prop := marksBackUptoRow.holds Try.pinned (OpenSpec.upto marksBackSpec)

/-- 'copyistlaw16.MarksIn', WHERE WHAT IT READS IS OF BULK AT MOST 1048576: true; the input reads as it did. -/
def marksInUptoRow : OpenClaim := { program := "ytlnpjdihdemgmaa", sum := "75d4617d73899971911b951c8de72f9443c07c1522ca16a523d4dace90d221c2", func := "copyist/copyistlaw16.MarksIn", spec := "marksIn", unfollowed := true, recurses := true, apart := false, narrowed := true }
def MarksInUptoSaid : Prop := marksInUptoRow.holds Try.pinned (OpenSpec.upto marksInSpec)

/-- 'copyistlaw16.MarksScript', WHERE WHAT IT READS IS OF BULK AT MOST 1048576: true; the input reads as it did. -/
def marksScriptUptoRow : OpenClaim := { program := "ytlnpjdihdemgmaa", sum := "75d4617d73899971911b951c8de72f9443c07c1522ca16a523d4dace90d221c2", func := "copyist/copyistlaw16.MarksScript", spec := "marksScript", inPlace := ["maps.clone"], unfollowed := true, recurses := true, apart := false, narrowed := true }
def MarksScriptUptoSaid : Prop := marksScriptUptoRow.holds Try.pinned (OpenSpec.upto marksScriptSpec)

/-- 'copyistlaw16.MarksApart', WHERE WHAT IT READS IS OF BULK AT MOST 1048576: true; the input reads as it did. -/
def marksApartUptoRow : OpenClaim := { program := "ytlnpjdihdemgmaa", sum := "75d4617d73899971911b951c8de72f9443c07c1522ca16a523d4dace90d221c2", func := "copyist/copyistlaw16.MarksApart", spec := "marksApart", inPlace := ["maps.clone"], unfollowed := true, recurses := true, apart := false, narrowed := true }
def MarksApartUptoSaid : Prop := marksApartUptoRow.holds Try.pinned (OpenSpec.upto marksApartSpec)

end Rows
end Go.Proofs.Ytlnpjdihdemgmaa
