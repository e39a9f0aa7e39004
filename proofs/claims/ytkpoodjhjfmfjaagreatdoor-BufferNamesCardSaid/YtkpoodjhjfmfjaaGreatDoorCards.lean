/-
  DERIVED. GIVEN WITH THE SEED: THE CARDS: each row of YtkpoodjhjfmfjaaGreatDoorRows.lean that lists a variable, with what it lists TIED to the program's text (the seventh form; the later family's looks); each row that meets fmt, with fmt's text TOLD by the authors' own Lean function (tested against real Go, not proved from fmt's source: count such statements apart). THE CARD IS WHAT COUNTS. Prove the row's statement (the work); the ties are given (YtkpoodjhjfmfjaaGreatDoorTie.lean); close each card by the builder's one call (the guide's Derived/Test/ToyasCard.lean, 'card_holds'). Laid BY PROGRAM, IN A SANDBOX (cutbox-door.mjs). By AI agents, Wed Nov 11 2026. No macro, syntax, notation, axiom, sorry.
-/
import Derived.Test.YtkpoodjhjfmfjaaGreatDoorRows
import GoSem.ClaimSeven
namespace Go.Proofs.YtkpoodjhjfmfjaaGreatDoor
namespace Rows

/-- THE TIED CARD OF 'copyistlaw20.BufferNames'. -/
def bufferNamesCard : Claim7 := { stood := { row := bufferNamesRow, standIns := [], harness := (true, "94350ae38f96c1325162402d663dbc16728a84f903c3f0cd5b7add9af6c7ad86"), looks := true }, kinds := [], alts := [], laidByText := true, laidKinds := [.data, .data, .pinned], laidTests := true, laidLooks := .later }
def BufferNamesCardSaid : Prop := Claim7.holds Tryz.pinned (.plain (OpenSpec.ofChange bufferNamesSpec)) bufferNamesCard

/-- THE TIED CARD OF 'copyistlaw20.BufferReach'. -/
def bufferReachCard : Claim7 := { stood := { row := bufferReachRow, standIns := [], harness := (true, "94350ae38f96c1325162402d663dbc16728a84f903c3f0cd5b7add9af6c7ad86"), looks := true }, kinds := [], alts := [], laidByText := true, laidKinds := [.data, .data, .pinned], laidTests := true, laidLooks := .later }
def BufferReachCardSaid : Prop := Claim7.holds Tryz.pinned (.plain (OpenSpec.ofChange bufferReachSpec)) bufferReachCard

/-- THE TIED CARD OF 'copyistlaw20.BufferPasted'. -/
def bufferPastedCard : Claim7 := { stood := { row := bufferPastedRow, standIns := [], harness := (true, "94350ae38f96c1325162402d663dbc16728a84f903c3f0cd5b7add9af6c7ad86"), looks := true }, kinds := [], alts := [], laidByText := true, laidKinds := [.data, .data, .pinned], laidTests := true, laidLooks := .later }
def BufferPastedCardSaid : Prop := Claim7.holds Tryz.pinned (.plain (OpenSpec.ofChange bufferPastedSpec)) bufferPastedCard

/-- THE TIED CARD OF 'copyistlaw20.BufferSaved'. -/
def bufferSavedCard : Claim7 := { stood := { row := bufferSavedRow, standIns := [], harness := (true, "94350ae38f96c1325162402d663dbc16728a84f903c3f0cd5b7add9af6c7ad86"), looks := true }, kinds := [], alts := [], laidByText := true, laidKinds := [.data, .data, .pinned], laidTests := true, laidLooks := .later }
def BufferSavedCardSaid : Prop := Claim7.holds Tryz.pinned (.plain (OpenSpec.ofChange bufferSavedSpec)) bufferSavedCard

/-- THE TIED CARD OF 'copyistlaw20.BufferTicks'. -/
def bufferTicksCard : Claim7 := { stood := { row := bufferTicksRow, standIns := [], harness := (true, "94350ae38f96c1325162402d663dbc16728a84f903c3f0cd5b7add9af6c7ad86"), looks := true }, kinds := [], alts := [], laidByText := true, laidKinds := [.data, .data, .pinned], laidTests := true, laidLooks := .later }
def BufferTicksCardSaid : Prop := Claim7.holds Tryz.pinned (.plain (OpenSpec.ofChange bufferTicksSpec)) bufferTicksCard

/-- THE TIED CARD OF 'copyistlaw20.BufferUndone'. -/
def bufferUndoneCard : Claim7 := { stood := { row := bufferUndoneRow, standIns := [], harness := (true, "94350ae38f96c1325162402d663dbc16728a84f903c3f0cd5b7add9af6c7ad86"), looks := true }, kinds := [], alts := [], laidByText := true, laidKinds := [.data, .data, .pinned], laidTests := true, laidLooks := .later }
def BufferUndoneCardSaid : Prop := Claim7.holds Tryz.pinned (.plain (OpenSpec.ofChange bufferUndoneSpec)) bufferUndoneCard

/-- THE TIED CARD OF 'copyistlaw20.BufferReads'. -/
def bufferReadsCard : Claim7 := { stood := { row := bufferReadsRow, standIns := [], harness := (true, "94350ae38f96c1325162402d663dbc16728a84f903c3f0cd5b7add9af6c7ad86"), looks := true }, kinds := [], alts := [], laidByText := true, laidKinds := [.data, .data, .pinned], laidTests := true, laidLooks := .later }
def BufferReadsCardSaid : Prop := Claim7.holds Tryz.pinned (.plain (OpenSpec.ofChange bufferReadsSpec)) bufferReadsCard

/-- THE TIED CARD OF 'copyistlaw20.BufferApart'. -/
def bufferApartCard : Claim7 := { stood := { row := bufferApartRow, standIns := [], harness := (true, "94350ae38f96c1325162402d663dbc16728a84f903c3f0cd5b7add9af6c7ad86"), looks := true }, kinds := [], alts := [], laidByText := true, laidKinds := [.data, .data, .pinned], laidTests := true, laidLooks := .later }
def BufferApartCardSaid : Prop := Claim7.holds Tryz.pinned (.plain (OpenSpec.ofChange bufferApartSpec)) bufferApartCard

/-- THE SECOND FORM's CARD OF 'copyistlaw20.BufferNames'. -/
def bufferNamesUptoCard : Claim7 := { stood := { row := bufferNamesUptoRow, standIns := [], harness := (true, "94350ae38f96c1325162402d663dbc16728a84f903c3f0cd5b7add9af6c7ad86"), looks := true }, kinds := [], alts := [], laidByText := true, laidKinds := [.data, .data, .pinned], laidTests := true, laidLooks := .later }
def BufferNamesUptoCardSaid : Prop := Claim7.holds Tryz.pinned (.plain (OpenSpec.upto bufferNamesSpec)) bufferNamesUptoCard

/-- THE SECOND FORM's CARD OF 'copyistlaw20.BufferReach'. -/
def bufferReachUptoCard : Claim7 := { stood := { row := bufferReachUptoRow, standIns := [], harness := (true, "94350ae38f96c1325162402d663dbc16728a84f903c3f0cd5b7add9af6c7ad86"), looks := true }, kinds := [], alts := [], laidByText := true, laidKinds := [.data, .data, .pinned], laidTests := true, laidLooks := .later }
def BufferReachUptoCardSaid : Prop := Claim7.holds Tryz.pinned (.plain (OpenSpec.upto bufferReachSpec)) bufferReachUptoCard

/-- THE SECOND FORM's CARD OF 'copyistlaw20.BufferPasted'. -/
def bufferPastedUptoCard : Claim7 := { stood := { row := bufferPastedUptoRow, standIns := [], harness := (true, "94350ae38f96c1325162402d663dbc16728a84f903c3f0cd5b7add9af6c7ad86"), looks := true }, kinds := [], alts := [], laidByText := true, laidKinds := [.data, .data, .pinned], laidTests := true, laidLooks := .later }
def BufferPastedUptoCardSaid : Prop := Claim7.holds Tryz.pinned (.plain (OpenSpec.upto bufferPastedSpec)) bufferPastedUptoCard

/-- THE SECOND FORM's CARD OF 'copyistlaw20.BufferSaved'. -/
def bufferSavedUptoCard : Claim7 := { stood := { row := bufferSavedUptoRow, standIns := [], harness := (true, "94350ae38f96c1325162402d663dbc16728a84f903c3f0cd5b7add9af6c7ad86"), looks := true }, kinds := [], alts := [], laidByText := true, laidKinds := [.data, .data, .pinned], laidTests := true, laidLooks := .later }
def BufferSavedUptoCardSaid : Prop := Claim7.holds Tryz.pinned (.plain (OpenSpec.upto bufferSavedSpec)) bufferSavedUptoCard

/-- THE SECOND FORM's CARD OF 'copyistlaw20.BufferTicks'. -/
def bufferTicksUptoCard : Claim7 := { stood := { row := bufferTicksUptoRow, standIns := [], harness := (true, "94350ae38f96c1325162402d663dbc16728a84f903c3f0cd5b7add9af6c7ad86"), looks := true }, kinds := [], alts := [], laidByText := true, laidKinds := [.data, .data, .pinned], laidTests := true, laidLooks := .later }
def BufferTicksUptoCardSaid : Prop := Claim7.holds Tryz.pinned (.plain (OpenSpec.upto bufferTicksSpec)) bufferTicksUptoCard

/-- THE SECOND FORM's CARD OF 'copyistlaw20.BufferUndone'. -/
def bufferUndoneUptoCard : Claim7 := { stood := { row := bufferUndoneUptoRow, standIns := [], harness := (true, "94350ae38f96c1325162402d663dbc16728a84f903c3f0cd5b7add9af6c7ad86"), looks := true }, kinds := [], alts := [], laidByText := true, laidKinds := [.data, .data, .pinned], laidTests := true, laidLooks := .later }
def BufferUndoneUptoCardSaid : Prop := Claim7.holds Tryz.pinned (.plain (OpenSpec.upto bufferUndoneSpec)) bufferUndoneUptoCard

/-- THE SECOND FORM's CARD OF 'copyistlaw20.BufferReads'. -/
def bufferReadsUptoCard : Claim7 := { stood := { row := bufferReadsUptoRow, standIns := [], harness := (true, "94350ae38f96c1325162402d663dbc16728a84f903c3f0cd5b7add9af6c7ad86"), looks := true }, kinds := [], alts := [], laidByText := true, laidKinds := [.data, .data, .pinned], laidTests := true, laidLooks := .later }
def BufferReadsUptoCardSaid : Prop := Claim7.holds Tryz.pinned (.plain (OpenSpec.upto bufferReadsSpec)) bufferReadsUptoCard

/-- THE SECOND FORM's CARD OF 'copyistlaw20.BufferApart'. -/
def bufferApartUptoCard : Claim7 := { stood := { row := bufferApartUptoRow, standIns := [], harness := (true, "94350ae38f96c1325162402d663dbc16728a84f903c3f0cd5b7add9af6c7ad86"), looks := true }, kinds := [], alts := [], laidByText := true, laidKinds := [.data, .data, .pinned], laidTests := true, laidLooks := .later }
def BufferApartUptoCardSaid : Prop := Claim7.holds Tryz.pinned (.plain (OpenSpec.upto bufferApartSpec)) bufferApartUptoCard
end Rows
end Go.Proofs.YtkpoodjhjfmfjaaGreatDoor
