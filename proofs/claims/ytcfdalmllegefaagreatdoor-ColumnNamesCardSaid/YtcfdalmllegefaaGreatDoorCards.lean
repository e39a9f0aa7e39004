/-
  DERIVED. GIVEN WITH THE SEED: THE CARDS: each row of YtcfdalmllegefaaGreatDoorRows.lean that lists a variable, with what it lists TIED to the program's text (the seventh form; the later family's looks); each row that meets fmt, with fmt's text TOLD by the authors' own Lean function (tested against real Go, not proved from fmt's source: count such statements apart). THE CARD IS WHAT COUNTS. Prove the row's statement (the work); the ties are given (YtcfdalmllegefaaGreatDoorTie.lean); close each card by the builder's one call (the guide's Derived/Test/ToyasCard.lean, 'card_holds'). Laid BY PROGRAM, IN A SANDBOX (cutbox-door.mjs). By AI agents, Wed Nov 11 2026. No macro, syntax, notation, axiom, sorry.
-/
import Derived.Test.YtcfdalmllegefaaGreatDoorRows
import GoSem.ClaimSeven
namespace Go.Proofs.YtcfdalmllegefaaGreatDoor
namespace Rows

/-- THE TIED CARD OF 'copyistlaw24.ColumnNames'. -/
def columnNamesCard : Claim7 := { stood := { row := columnNamesRow, standIns := [], harness := (true, "a34f652f9e1a4fd517a06abbeebb5aa0a62ff8ff195a29362eefc2911448f9c9"), looks := false }, kinds := [], alts := [], laidByText := true, laidKinds := [.data, .data, .pinned], laidTests := true, laidLooks := .later }
def ColumnNamesCardSaid : Prop := Claim7.holds Tryz.pinned (.plain (OpenSpec.ofChange columnNamesSpec)) columnNamesCard

/-- THE TIED CARD OF 'copyistlaw24.ColumnScript'. -/
def columnScriptCard : Claim7 := { stood := { row := columnScriptRow, standIns := [], harness := (true, "a34f652f9e1a4fd517a06abbeebb5aa0a62ff8ff195a29362eefc2911448f9c9"), looks := false }, kinds := [], alts := [], laidByText := true, laidKinds := [.data, .data, .pinned], laidTests := true, laidLooks := .later }
def ColumnScriptCardSaid : Prop := Claim7.holds Tryz.pinned (.plain (OpenSpec.ofChange columnScriptSpec)) columnScriptCard

/-- THE SECOND FORM's CARD OF 'copyistlaw24.ColumnNames'. -/
def columnNamesUptoCard : Claim7 := { stood := { row := columnNamesUptoRow, standIns := [], harness := (true, "a34f652f9e1a4fd517a06abbeebb5aa0a62ff8ff195a29362eefc2911448f9c9"), looks := false }, kinds := [], alts := [], laidByText := true, laidKinds := [.data, .data, .pinned], laidTests := true, laidLooks := .later }
def ColumnNamesUptoCardSaid : Prop := Claim7.holds Tryz.pinned (.plain (OpenSpec.upto columnNamesSpec)) columnNamesUptoCard

/-- THE SECOND FORM's CARD OF 'copyistlaw24.ColumnScript'. -/
def columnScriptUptoCard : Claim7 := { stood := { row := columnScriptUptoRow, standIns := [], harness := (true, "a34f652f9e1a4fd517a06abbeebb5aa0a62ff8ff195a29362eefc2911448f9c9"), looks := false }, kinds := [], alts := [], laidByText := true, laidKinds := [.data, .data, .pinned], laidTests := true, laidLooks := .later }
def ColumnScriptUptoCardSaid : Prop := Claim7.holds Tryz.pinned (.plain (OpenSpec.upto columnScriptSpec)) columnScriptUptoCard
end Rows
end Go.Proofs.YtcfdalmllegefaaGreatDoor
