/- Registers: the reference's Add. -/
import Derived.Test.YtaofcnmajicpcaaGreatDoorKgP
namespace Go.Proofs.YtaofcnmajicpcaaGreatDoor
open Go.RowKit
set_option linter.unusedVariables false
set_option linter.unusedSimpArgs false
section
variable {w w' : World} {bo : Nat} {v : Value} {l : List (Int × Reg)}
def raddM (lc : List (Int × Con)) (c d : Int) : List (Int × Con) := match lookM lc c with | none => lc | some x => if addE x d = 0 then rput lc c (addC x d) else lc
end
end Go.Proofs.YtaofcnmajicpcaaGreatDoor
