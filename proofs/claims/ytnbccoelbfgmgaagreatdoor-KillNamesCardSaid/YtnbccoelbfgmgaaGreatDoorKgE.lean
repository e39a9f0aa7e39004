/- Registers: the reference's plain. -/
import Derived.Test.YtnbccoelbfgmgaaGreatDoorKgD
namespace Go.Proofs.YtnbccoelbfgmgaaGreatDoor
open Go.RowKit
set_option linter.unusedVariables false
set_option linter.unusedSimpArgs false
section
variable {w w' : World} {N : Nat}
end
end Go.Proofs.YtnbccoelbfgmgaaGreatDoor
