/- Registers: the reference's Set of a new character, Drop. -/
import Derived.Test.YtaofcnmajicpcaaGreatDoorKgN
import Derived.Test.YtaofcnmajicpcaaGreatDoorIns
namespace Go.Proofs.YtaofcnmajicpcaaGreatDoor
open Go.RowKit
set_option linter.unusedVariables false
set_option linter.unusedSimpArgs false
section
variable {w w' : World} {bo : Nat} {v : Value} {l : List (Int × Reg)}
end
end Go.Proofs.YtaofcnmajicpcaaGreatDoor
