/- Registers: the reference's Drop, Add; Set whole. -/
import Derived.Test.YtaofcnmajicpcaaGreatDoorKgO
namespace Go.Proofs.YtaofcnmajicpcaaGreatDoor
open Go.RowKit
set_option linter.unusedVariables false
set_option linter.unusedSimpArgs false
section
variable {w w' : World} {bo : Nat} {v : Value} {l : List (Int × Reg)}
def rdropE (lc : List (Int × Con)) (c : Int) : Int := if isL lc c then 0 else 8
theorem foot_rdel {c : Int} {g : Nat} (h : Foot (rdel l c) g) : Foot l g := by
  obtain ⟨p, hp, hg⟩ := h
  exact ⟨p, rdel_mem hp, hg⟩
end
end Go.Proofs.YtaofcnmajicpcaaGreatDoor
