/-
  DERIVED. GIVEN WITH THE SEED: THE CARDS: each row of YtmnmloebomlllaaDoorRows.lean that lists a variable, with what it lists TIED to the program's text (the seventh form; the later family's looks); each row that meets fmt, with fmt's text TOLD by the authors' own Lean function (tested against real Go, not proved from fmt's source: count such statements apart). THE CARD IS WHAT COUNTS. Prove the row's statement (the work); the ties are given (YtmnmloebomlllaaDoorTie.lean); close each card by the builder's one call (the guide's Derived/Test/ToyasCard.lean, 'card_holds'). Laid BY PROGRAM, IN A SANDBOX (cutbox-door.mjs). By AI agents, Wed Nov 11 2026. No macro, syntax, notation, axiom, sorry.
-/
import Derived.Test.YtmnmloebomlllaaDoorRows
import GoSem.ClaimSeven
namespace Go.Proofs.YtmnmloebomlllaaDoor
namespace Rows

/-- THE TIED CARD OF 'copyistlaw25.KillTurns'. -/
def killTurnsCard : Claim7 := { stood := { row := killTurnsRow, standIns := [], harness := (true, "13b9dcdf1b24feb0e8042ab99f532cb857fde0b0c487fbf0f6bf62dde92fe070"), looks := true }, kinds := [], alts := [], laidByText := true, laidKinds := [.data, .pinned], laidTests := true, laidLooks := .later }
def KillTurnsCardSaid : Prop := Claim7.holds Tryd.pinned (.plain (OpenSpec.ofChange killTurnsSpec)) killTurnsCard

/-- THE TIED CARD OF 'copyistlaw25.KillScript'. -/
def killScriptCard : Claim7 := { stood := { row := killScriptRow, standIns := [], harness := (true, "13b9dcdf1b24feb0e8042ab99f532cb857fde0b0c487fbf0f6bf62dde92fe070"), looks := true }, kinds := [], alts := [], laidByText := true, laidKinds := [.data, .pinned], laidTests := true, laidLooks := .later }
def KillScriptCardSaid : Prop := Claim7.holds Tryd.pinned (.plain (OpenSpec.ofChange killScriptSpec)) killScriptCard

/-- THE TIED CARD OF 'copyistlaw25.KillRegisters'. -/
def killRegistersCard : Claim7 := { stood := { row := killRegistersRow, standIns := [], harness := (true, "13b9dcdf1b24feb0e8042ab99f532cb857fde0b0c487fbf0f6bf62dde92fe070"), looks := true }, kinds := [], alts := [], laidByText := true, laidKinds := [.data, .pinned], laidTests := true, laidLooks := .later }
def KillRegistersCardSaid : Prop := Claim7.holds Tryd.pinned (.plain (OpenSpec.ofChange killRegistersSpec)) killRegistersCard

/-- THE SECOND FORM's CARD OF 'copyistlaw25.KillTurns'. -/
def killTurnsUptoCard : Claim7 := { stood := { row := killTurnsUptoRow, standIns := [], harness := (true, "13b9dcdf1b24feb0e8042ab99f532cb857fde0b0c487fbf0f6bf62dde92fe070"), looks := true }, kinds := [], alts := [], laidByText := true, laidKinds := [.data, .pinned], laidTests := true, laidLooks := .later }
def KillTurnsUptoCardSaid : Prop := Claim7.holds Tryd.pinned (.plain (OpenSpec.upto killTurnsSpec)) killTurnsUptoCard

/-- THE SECOND FORM's CARD OF 'copyistlaw25.KillScript'. -/
def killScriptUptoCard : Claim7 := { stood := { row := killScriptUptoRow, standIns := [], harness := (true, "13b9dcdf1b24feb0e8042ab99f532cb857fde0b0c487fbf0f6bf62dde92fe070"), looks := true }, kinds := [], alts := [], laidByText := true, laidKinds := [.data, .pinned], laidTests := true, laidLooks := .later }
def KillScriptUptoCardSaid : Prop := Claim7.holds Tryd.pinned (.plain (OpenSpec.upto killScriptSpec)) killScriptUptoCard

/-- THE SECOND FORM's CARD OF 'copyistlaw25.KillRegisters'. -/
def killRegistersUptoCard : Claim7 := { stood := { row := killRegistersUptoRow, standIns := [], harness := (true, "13b9dcdf1b24feb0e8042ab99f532cb857fde0b0c487fbf0f6bf62dde92fe070"), looks := true }, kinds := [], alts := [], laidByText := true, laidKinds := [.data, .pinned], laidTests := true, laidLooks := .later }
def KillRegistersUptoCardSaid : Prop := Claim7.holds Tryd.pinned (.plain (OpenSpec.upto killRegistersSpec)) killRegistersUptoCard
end Rows
end Go.Proofs.YtmnmloebomlllaaDoor
