/-
  DERIVED. GIVEN WITH THE SEED: THE CARDS: each row of YtobnmpgfkgoapaaGreatDoorRows.lean that lists a variable, with what it lists TIED to the program's text (the seventh form; the later family's looks); each row that meets fmt, with fmt's text TOLD by the authors' own Lean function (tested against real Go, not proved from fmt's source: count such statements apart). THE CARD IS WHAT COUNTS. Prove the row's statement (the work); the ties are given (YtobnmpgfkgoapaaGreatDoorTie.lean); close each card by the builder's one call (the guide's Derived/Test/ToyasCard.lean, 'card_holds'). Laid BY PROGRAM, IN A SANDBOX (cutbox-door.mjs). By AI agents, Wed Nov 11 2026. No macro, syntax, notation, axiom, sorry.
-/
import Derived.Test.YtobnmpgfkgoapaaGreatDoorRows
import GoSem.ClaimSeven
namespace Go.Proofs.YtobnmpgfkgoapaaGreatDoor
namespace Rows

/-- THE TIED CARD OF 'copyistlaw20.BufferPlain'. -/
def bufferPlainCard : Claim7 := { stood := { row := bufferPlainRow, standIns := [], harness := (true, "74fe8fbdfe62bde297840fff1d0c4b9f006b2caeddcee658f52ac931e4da59b4"), looks := false }, kinds := [], alts := [], laidByText := true, laidKinds := [.data, .data, .pinned], laidTests := true, laidLooks := .later }
def BufferPlainCardSaid : Prop := Claim7.holds Tryz.pinned (.plain (OpenSpec.ofChange bufferPlainSpec)) bufferPlainCard

/-- THE SECOND FORM's CARD OF 'copyistlaw20.BufferPlain'. -/
def bufferPlainUptoCard : Claim7 := { stood := { row := bufferPlainUptoRow, standIns := [], harness := (true, "74fe8fbdfe62bde297840fff1d0c4b9f006b2caeddcee658f52ac931e4da59b4"), looks := false }, kinds := [], alts := [], laidByText := true, laidKinds := [.data, .data, .pinned], laidTests := true, laidLooks := .later }
def BufferPlainUptoCardSaid : Prop := Claim7.holds Tryz.pinned (.plain (OpenSpec.upto bufferPlainSpec)) bufferPlainUptoCard
end Rows
end Go.Proofs.YtobnmpgfkgoapaaGreatDoor
