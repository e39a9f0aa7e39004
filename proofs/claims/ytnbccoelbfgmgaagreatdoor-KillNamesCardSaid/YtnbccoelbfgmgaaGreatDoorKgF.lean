/- Registers: the reference's plain at rows. -/
import Derived.Test.YtnbccoelbfgmgaaGreatDoorKgE
namespace Go.Proofs.YtnbccoelbfgmgaaGreatDoor
open Go.RowKit
set_option linter.unusedVariables false
set_option linter.unusedSimpArgs false
section
variable {w w' : World} {N : Nat}
theorem plC_rows1 {n id : Int} {t : ByteArray} {rows : List ByteArray} (hv : rows.any (fun s => !vld s) = false) : plainC ⟨4, n, id, t, rows⟩ = ⟨4, 0, 0, ⟨#[]⟩, rows⟩ := by unfold plainC; rw [if_pos (plE_rows1 hv)]; rfl
theorem plC_rows0 {n id : Int} {t : ByteArray} {rows : List ByteArray} (hv : rows.any (fun s => !vld s) = true) : plainC ⟨4, n, id, t, rows⟩ = zeroCn := by unfold plainC; rw [plE_rows0 hv]; rfl
end
end Go.Proofs.YtnbccoelbfgmgaaGreatDoor
