/- The reference's ring: New, turn, Yank, Pop. -/
import Derived.Test.YtaofcnmajicpcaaGreatDoorKrI
namespace Go.Proofs.YtaofcnmajicpcaaGreatDoor
open Go.RowKit
set_option linter.unusedVariables false
set_option linter.unusedSimpArgs false
section
variable {w w' : World} {b : Nat} {L : List ByteArray} {most at_ : Nat} {v : Value}
theorem turn_tmod (n at_ : Nat) (k : Int) (hn : 0 < n) : turnTo n at_ (k.tmod n) = turnTo n at_ k := by
  unfold turnTo
  have h : (k.tmod n) % (n : Int) = k % n := by
    have h2 := Int.tmod_add_mul_tdiv k n
    conv => rhs; rw [← h2]
    rw [Int.add_mul_emod_self_left]
  congr 1
  rw [Int.add_emod, h, ← Int.add_emod]
def RTake (w : World) (b : Nat) (v : Value) (L : List ByteArray) (most k : Nat) (e : Ending) (w' : World) : Prop :=
  e = .returned (.tuple #[.string (L.getD k ByteArray.empty), .int .i64 0]) ∧ RRing w' b v L most k ∧ Only (· = b) w w'
theorem turn_add (n at_ : Nat) (k : Int) (hn : 0 < n) (hat : at_ < n) (r : Int) (hr : r = if k.tmod n < 0 then k.tmod n + n else k.tmod n) : ((at_ : Int) + r) % n = (turnTo n at_ k : Nat) := by
  rw [← turn_tmod n at_ k hn]
  unfold turnTo
  have hnn := Int.emod_nonneg ((at_ : Int) + k.tmod n) (by omega : (n : Int) ≠ 0)
  rw [Int.toNat_of_nonneg hnn]
  subst hr
  split
  · rw [← Int.add_assoc, Int.add_emod_right]
  · rfl
def RNone (w : World) (e : Ending) (w' : World) : Prop := e = .returned (.tuple #[.string ⟨#[]⟩, .int .i64 13]) ∧ w = w'
end
end Go.Proofs.YtaofcnmajicpcaaGreatDoor
