/-
  DERIVED. GIVEN WITH THE SEED: THE CARDS: each row of YtaofcnmajicpcaaGreatDoorRows.lean that lists a variable, with what it lists TIED to the program's text (the seventh form; the later family's looks); each row that meets fmt, with fmt's text TOLD by the authors' own Lean function (tested against real Go, not proved from fmt's source: count such statements apart). THE CARD IS WHAT COUNTS. Prove the row's statement (the work); the ties are given (YtaofcnmajicpcaaGreatDoorTie.lean); close each card by the builder's one call (the guide's Derived/Test/ToyasCard.lean, 'card_holds'). Laid BY PROGRAM, IN A SANDBOX (cutbox-door.mjs). By AI agents, Wed Nov 11 2026. No macro, syntax, notation, axiom, sorry.
-/
import Derived.Test.YtaofcnmajicpcaaGreatDoorRows
import GoSem.ClaimSeven
namespace Go.Proofs.YtaofcnmajicpcaaGreatDoor
namespace Rows

/-- THE TIED CARD OF 'copyistlaw25.KillApart'. -/
def killApartCard : Claim7 := { stood := { row := killApartRow, standIns := [], harness := (true, "0d67197411bf371fcfc47094a5b18737c0f4f18c9b331ca2ee72f0056747c25e"), looks := true }, kinds := [], alts := [], laidByText := true, laidKinds := [.data, .data, .pinned], laidTests := true, laidLooks := .later }
def KillApartCardSaid : Prop := Claim7.holds Tryz.pinned (.plain (OpenSpec.ofChange killApartSpec)) killApartCard

/-- THE SECOND FORM's CARD OF 'copyistlaw25.KillApart'. -/
def killApartUptoCard : Claim7 := { stood := { row := killApartUptoRow, standIns := [], harness := (true, "0d67197411bf371fcfc47094a5b18737c0f4f18c9b331ca2ee72f0056747c25e"), looks := true }, kinds := [], alts := [], laidByText := true, laidKinds := [.data, .data, .pinned], laidTests := true, laidLooks := .later }
def KillApartUptoCardSaid : Prop := Claim7.holds Tryz.pinned (.plain (OpenSpec.upto killApartSpec)) killApartUptoCard
end Rows
end Go.Proofs.YtaofcnmajicpcaaGreatDoor
