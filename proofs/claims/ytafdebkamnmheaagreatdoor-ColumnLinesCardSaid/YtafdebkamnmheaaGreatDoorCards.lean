/-
  DERIVED. GIVEN WITH THE SEED: THE CARDS: each row of YtafdebkamnmheaaGreatDoorRows.lean that lists a variable, with what it lists TIED to the program's text (the seventh form; the later family's looks); each row that meets fmt, with fmt's text TOLD by the authors' own Lean function (tested against real Go, not proved from fmt's source: count such statements apart). THE CARD IS WHAT COUNTS. Prove the row's statement (the work); the ties are given (YtafdebkamnmheaaGreatDoorTie.lean); close each card by the builder's one call (the guide's Derived/Test/ToyasCard.lean, 'card_holds'). Laid BY PROGRAM, IN A SANDBOX (cutbox-door.mjs). By AI agents, Wed Nov 11 2026. No macro, syntax, notation, axiom, sorry.
-/
import Derived.Test.YtafdebkamnmheaaGreatDoorRows
import GoSem.ClaimSeven
namespace Go.Proofs.YtafdebkamnmheaaGreatDoor
namespace Rows

/-- THE TIED CARD OF 'copyistlaw24.ColumnSeeks'. -/
def columnSeeksCard : Claim7 := { stood := { row := columnSeeksRow, standIns := [], harness := (true, "ba9f5eb49102400bba7fe09a1eba370763dc11fa6794131fde552e4d0d136a0c"), looks := false }, kinds := [], alts := [], laidByText := true, laidKinds := [.data, .data, .pinned], laidTests := true, laidLooks := .later }
def ColumnSeeksCardSaid : Prop := Claim7.holds Tryz.pinned (.plain (OpenSpec.ofChange columnSeeksSpec)) columnSeeksCard

/-- THE TIED CARD OF 'copyistlaw24.ColumnLines'. -/
def columnLinesCard : Claim7 := { stood := { row := columnLinesRow, standIns := [], harness := (true, "ba9f5eb49102400bba7fe09a1eba370763dc11fa6794131fde552e4d0d136a0c"), looks := false }, kinds := [], alts := [], laidByText := true, laidKinds := [.data, .data, .pinned], laidTests := true, laidLooks := .later }
def ColumnLinesCardSaid : Prop := Claim7.holds Tryz.pinned (.plain (OpenSpec.ofChange columnLinesSpec)) columnLinesCard

/-- THE SECOND FORM's CARD OF 'copyistlaw24.ColumnSeeks'. -/
def columnSeeksUptoCard : Claim7 := { stood := { row := columnSeeksUptoRow, standIns := [], harness := (true, "ba9f5eb49102400bba7fe09a1eba370763dc11fa6794131fde552e4d0d136a0c"), looks := false }, kinds := [], alts := [], laidByText := true, laidKinds := [.data, .data, .pinned], laidTests := true, laidLooks := .later }
def ColumnSeeksUptoCardSaid : Prop := Claim7.holds Tryz.pinned (.plain (OpenSpec.upto columnSeeksSpec)) columnSeeksUptoCard

/-- THE SECOND FORM's CARD OF 'copyistlaw24.ColumnLines'. -/
def columnLinesUptoCard : Claim7 := { stood := { row := columnLinesUptoRow, standIns := [], harness := (true, "ba9f5eb49102400bba7fe09a1eba370763dc11fa6794131fde552e4d0d136a0c"), looks := false }, kinds := [], alts := [], laidByText := true, laidKinds := [.data, .data, .pinned], laidTests := true, laidLooks := .later }
def ColumnLinesUptoCardSaid : Prop := Claim7.holds Tryz.pinned (.plain (OpenSpec.upto columnLinesSpec)) columnLinesUptoCard
end Rows
end Go.Proofs.YtafdebkamnmheaaGreatDoor
