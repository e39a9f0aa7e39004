/-
  DERIVED. GIVEN WITH THE SEED: THE CARDS: each row of YtnbccoelbfgmgaaGreatDoorRows.lean that lists a variable, with what it lists TIED to the program's text (the seventh form; the later family's looks); each row that meets fmt, with fmt's text TOLD by the authors' own Lean function (tested against real Go, not proved from fmt's source: count such statements apart). THE CARD IS WHAT COUNTS. Prove the row's statement (the work); the ties are given (YtnbccoelbfgmgaaGreatDoorTie.lean); close each card by the builder's one call (the guide's Derived/Test/ToyasCard.lean, 'card_holds'). Laid BY PROGRAM, IN A SANDBOX (cutbox-door.mjs). By AI agents, Wed Nov 11 2026. No macro, syntax, notation, axiom, sorry.
-/
import Derived.Test.YtnbccoelbfgmgaaGreatDoorRows
import GoSem.ClaimSeven
namespace Go.Proofs.YtnbccoelbfgmgaaGreatDoor
namespace Rows

/-- THE TIED CARD OF 'copyistlaw25.KillNames'. -/
def killNamesCard : Claim7 := { stood := { row := killNamesRow, standIns := [], harness := (true, "fd3d3eff79f6d3360f25ca842317e51f59e713df887b2989d43db646969661d1"), looks := true }, kinds := [], alts := [], laidByText := true, laidKinds := [.data, .data, .pinned], laidTests := true, laidLooks := .later }
def KillNamesCardSaid : Prop := Claim7.holds Tryz.pinned (.plain (OpenSpec.ofChange killNamesSpec)) killNamesCard

/-- THE TIED CARD OF 'copyistlaw25.KillBack'. -/
def killBackCard : Claim7 := { stood := { row := killBackRow, standIns := [], harness := (true, "fd3d3eff79f6d3360f25ca842317e51f59e713df887b2989d43db646969661d1"), looks := true }, kinds := [], alts := [], laidByText := true, laidKinds := [.data, .data, .pinned], laidTests := true, laidLooks := .later }
def KillBackCardSaid : Prop := Claim7.holds Tryz.pinned (.plain (OpenSpec.ofChange killBackSpec)) killBackCard

/-- THE SECOND FORM's CARD OF 'copyistlaw25.KillNames'. -/
def killNamesUptoCard : Claim7 := { stood := { row := killNamesUptoRow, standIns := [], harness := (true, "fd3d3eff79f6d3360f25ca842317e51f59e713df887b2989d43db646969661d1"), looks := true }, kinds := [], alts := [], laidByText := true, laidKinds := [.data, .data, .pinned], laidTests := true, laidLooks := .later }
def KillNamesUptoCardSaid : Prop := Claim7.holds Tryz.pinned (.plain (OpenSpec.upto killNamesSpec)) killNamesUptoCard

/-- THE SECOND FORM's CARD OF 'copyistlaw25.KillBack'. -/
def killBackUptoCard : Claim7 := { stood := { row := killBackUptoRow, standIns := [], harness := (true, "fd3d3eff79f6d3360f25ca842317e51f59e713df887b2989d43db646969661d1"), looks := true }, kinds := [], alts := [], laidByText := true, laidKinds := [.data, .data, .pinned], laidTests := true, laidLooks := .later }
def KillBackUptoCardSaid : Prop := Claim7.holds Tryz.pinned (.plain (OpenSpec.upto killBackSpec)) killBackUptoCard
end Rows
end Go.Proofs.YtnbccoelbfgmgaaGreatDoor
