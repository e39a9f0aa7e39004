/-
  DERIVED. GIVEN WITH THE SEED: THE CARDS: each row of YtklaeecegkpgmaaGreatDoorRows.lean that lists a variable, with what it lists TIED to the program's text (the seventh form; the later family's looks); each row that meets fmt, with fmt's text TOLD by the authors' own Lean function (tested against real Go, not proved from fmt's source: count such statements apart). THE CARD IS WHAT COUNTS. Prove the row's statement (the work); the ties are given (YtklaeecegkpgmaaGreatDoorTie.lean); close each card by the builder's one call (the guide's Derived/Test/ToyasCard.lean, 'card_holds'). Laid BY PROGRAM, IN A SANDBOX (cutbox-door.mjs). By AI agents, Wed Nov 11 2026. No macro, syntax, notation, axiom, sorry.
-/
import Derived.Test.YtklaeecegkpgmaaGreatDoorRows
import GoSem.ClaimSeven
namespace Go.Proofs.YtklaeecegkpgmaaGreatDoor
namespace Rows

/-- THE TIED CARD OF 'copyistlaw24.ColumnNil'. -/
def columnNilCard : Claim7 := { stood := { row := columnNilRow, standIns := [], harness := (true, "7bc6f00a0adc84b0ca7213bc5020915b85bb584f76bbe2b81b5ef9543f0e8a42"), looks := false }, kinds := [], alts := [], laidByText := true, laidKinds := [.data, .data, .pinned], laidTests := true, laidLooks := .later }
def ColumnNilCardSaid : Prop := Claim7.holds Tryz.pinned (.plain (OpenSpec.ofChange columnNilSpec)) columnNilCard

/-- THE SECOND FORM's CARD OF 'copyistlaw24.ColumnNil'. -/
def columnNilUptoCard : Claim7 := { stood := { row := columnNilUptoRow, standIns := [], harness := (true, "7bc6f00a0adc84b0ca7213bc5020915b85bb584f76bbe2b81b5ef9543f0e8a42"), looks := false }, kinds := [], alts := [], laidByText := true, laidKinds := [.data, .data, .pinned], laidTests := true, laidLooks := .later }
def ColumnNilUptoCardSaid : Prop := Claim7.holds Tryz.pinned (.plain (OpenSpec.upto columnNilSpec)) columnNilUptoCard
end Rows
end Go.Proofs.YtklaeecegkpgmaaGreatDoor
