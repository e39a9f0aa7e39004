/- Registers: the reference's Set. -/
import Derived.Test.YtaofcnmajicpcaaGreatDoorKgM
import Derived.Deep.RegionLaw
namespace Go.Proofs.YtaofcnmajicpcaaGreatDoor
open Go.RowKit
set_option linter.unusedVariables false
set_option linter.unusedSimpArgs false
section
variable {w w' : World} {bo : Nat} {v : Value} {l : List (Int × Reg)}
def rsetM (lc : List (Int × Con)) (c : Int) (x : Con) : List (Int × Con) := if setE c x = 0 then rput lc c (plainC x) else lc
theorem conM_length (l : List (Int × Reg)) : (conM l).length = l.length := by simp [conM]
theorem foot_set {i : Nat} {y : Int × Reg} {g N : Nat} (h : Foot (l.set i y) g) (hy : regBlk y.2 g → Foot l g ∨ N ≤ g) : Foot l g ∨ N ≤ g := by
  obtain ⟨p, hp, hg⟩ := h
  rcases List.mem_or_eq_of_mem_set hp with h1 | rfl
  · exact .inl ⟨p, h1, hg⟩
  · exact hy hg
end
end Go.Proofs.YtaofcnmajicpcaaGreatDoor
