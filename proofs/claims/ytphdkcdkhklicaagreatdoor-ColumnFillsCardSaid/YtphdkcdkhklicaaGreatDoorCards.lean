/-
  DERIVED. GIVEN WITH THE SEED: THE CARDS: each row of YtphdkcdkhklicaaGreatDoorRows.lean that lists a variable, with what it lists TIED to the program's text (the seventh form; the later family's looks); each row that meets fmt, with fmt's text TOLD by the authors' own Lean function (tested against real Go, not proved from fmt's source: count such statements apart). THE CARD IS WHAT COUNTS. Prove the row's statement (the work); the ties are given (YtphdkcdkhklicaaGreatDoorTie.lean); close each card by the builder's one call (the guide's Derived/Test/ToyasCard.lean, 'card_holds'). Laid BY PROGRAM, IN A SANDBOX (cutbox-door.mjs). By AI agents, Wed Nov 11 2026. No macro, syntax, notation, axiom, sorry.
-/
import Derived.Test.YtphdkcdkhklicaaGreatDoorRows
import GoSem.ClaimSeven
namespace Go.Proofs.YtphdkcdkhklicaaGreatDoor
namespace Rows

/-- THE TIED CARD OF 'copyistlaw24.ColumnLisps'. -/
def columnLispsCard : Claim7 := { stood := { row := columnLispsRow, standIns := [], harness := (true, "80bfa62011419d09c3ac24036587b659c9f7e99cdc04bb5343a2f2888fbf0d45"), looks := false }, kinds := [], alts := [], laidByText := true, laidKinds := [.data, .data, .pinned], laidTests := true, laidLooks := .later }
def ColumnLispsCardSaid : Prop := Claim7.holds Tryz.pinned (.plain (OpenSpec.ofChange columnLispsSpec)) columnLispsCard

/-- THE TIED CARD OF 'copyistlaw24.ColumnFills'. -/
def columnFillsCard : Claim7 := { stood := { row := columnFillsRow, standIns := [], harness := (true, "80bfa62011419d09c3ac24036587b659c9f7e99cdc04bb5343a2f2888fbf0d45"), looks := false }, kinds := [], alts := [], laidByText := true, laidKinds := [.data, .data, .pinned], laidTests := true, laidLooks := .later }
def ColumnFillsCardSaid : Prop := Claim7.holds Tryz.pinned (.plain (OpenSpec.ofChange columnFillsSpec)) columnFillsCard

/-- THE TIED CARD OF 'copyistlaw24.ColumnIndents'. -/
def columnIndentsCard : Claim7 := { stood := { row := columnIndentsRow, standIns := [], harness := (true, "80bfa62011419d09c3ac24036587b659c9f7e99cdc04bb5343a2f2888fbf0d45"), looks := false }, kinds := [], alts := [], laidByText := true, laidKinds := [.data, .data, .pinned], laidTests := true, laidLooks := .later }
def ColumnIndentsCardSaid : Prop := Claim7.holds Tryz.pinned (.plain (OpenSpec.ofChange columnIndentsSpec)) columnIndentsCard

/-- THE SECOND FORM's CARD OF 'copyistlaw24.ColumnLisps'. -/
def columnLispsUptoCard : Claim7 := { stood := { row := columnLispsUptoRow, standIns := [], harness := (true, "80bfa62011419d09c3ac24036587b659c9f7e99cdc04bb5343a2f2888fbf0d45"), looks := false }, kinds := [], alts := [], laidByText := true, laidKinds := [.data, .data, .pinned], laidTests := true, laidLooks := .later }
def ColumnLispsUptoCardSaid : Prop := Claim7.holds Tryz.pinned (.plain (OpenSpec.upto columnLispsSpec)) columnLispsUptoCard

/-- THE SECOND FORM's CARD OF 'copyistlaw24.ColumnFills'. -/
def columnFillsUptoCard : Claim7 := { stood := { row := columnFillsUptoRow, standIns := [], harness := (true, "80bfa62011419d09c3ac24036587b659c9f7e99cdc04bb5343a2f2888fbf0d45"), looks := false }, kinds := [], alts := [], laidByText := true, laidKinds := [.data, .data, .pinned], laidTests := true, laidLooks := .later }
def ColumnFillsUptoCardSaid : Prop := Claim7.holds Tryz.pinned (.plain (OpenSpec.upto columnFillsSpec)) columnFillsUptoCard

/-- THE SECOND FORM's CARD OF 'copyistlaw24.ColumnIndents'. -/
def columnIndentsUptoCard : Claim7 := { stood := { row := columnIndentsUptoRow, standIns := [], harness := (true, "80bfa62011419d09c3ac24036587b659c9f7e99cdc04bb5343a2f2888fbf0d45"), looks := false }, kinds := [], alts := [], laidByText := true, laidKinds := [.data, .data, .pinned], laidTests := true, laidLooks := .later }
def ColumnIndentsUptoCardSaid : Prop := Claim7.holds Tryz.pinned (.plain (OpenSpec.upto columnIndentsSpec)) columnIndentsUptoCard
end Rows
end Go.Proofs.YtphdkcdkhklicaaGreatDoor
