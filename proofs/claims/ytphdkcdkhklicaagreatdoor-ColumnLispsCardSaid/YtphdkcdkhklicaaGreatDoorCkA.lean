/- package column: body, of any name. -/
import Derived.Test.YtphdkcdkhklicaaGreatDoorZ02
namespace Go.Proofs.YtphdkcdkhklicaaGreatDoor
open Go.RowKit Go.Lib
set_option linter.unusedVariables false
set_option linter.unusedSimpArgs false
def defB (s : ByteArray) : Bool := decide (3 ≤ s.size) && ((s.extract 0 3).toList == [100, 101, 102])
def nameB (s : ByteArray) : Bool :=
  decide (s.toList = [108, 101, 116]) || decide (s.toList = [108, 101, 116, 42]) || decide (s.toList = [108, 97, 109, 98, 100, 97]) || decide (s.toList = [119, 104, 101, 110]) || decide (s.toList = [117, 110, 108, 101, 115, 115]) || decide (s.toList = [119, 104, 105, 108, 101]) || decide (s.toList = [100, 111, 108, 105, 115, 116]) || decide (s.toList = [100, 111, 116, 105, 109, 101, 115]) || decide (s.toList = [99, 97, 116, 99, 104]) || decide (s.toList = [117, 110, 119, 105, 110, 100, 45, 112, 114, 111, 116, 101, 99, 116]) || decide (s.toList = [99, 111, 110, 100, 105, 116, 105, 111, 110, 45, 99, 97, 115, 101]) || decide (s.toList = [112, 114, 111, 103, 110]) || decide (s.toList = [115, 97, 118, 101, 45, 101, 120, 99, 117, 114, 115, 105, 111, 110]) || decide (s.toList = [115, 97, 118, 101, 45, 114, 101, 115, 116, 114, 105, 99, 116, 105, 111, 110])
/-- Whether a form of a name has a body. -/
def bodyB (s : ByteArray) : Bool := defB s || nameB s
section
variable {w w' : World}
set_option maxHeartbeats 2000000 in
theorem hpre0 (s : ByteArray) (w : World) : Calls Tryz.prog 142 #[.string s, .string ⟨#[100, 101, 102]⟩] w fun e w' => e = .returned (.bool (defB s)) ∧ w = w' := by
  by_cases h : 3 ≤ s.size
  · obtain ⟨u, hu⟩ : ∃ u, u = defB s := ⟨_, rfl⟩
    rw [← hu]
    have d1 : decide ((3 : Int) ≤ (s.size : Int)) = true := decide_eq_true (by omega)
    by_cases hq : (s.extract 0 3).toList = [100, 101, 102]
    · have e : u = true := by rw [hu]; unfold defB; rw [hq]; simp [h]
      subst e
      clear hu
      go_enter Tryz.func142, Tryz.ntmps142
      go_wp2_with fail
      go_ret
      exact ⟨rfl, rfl⟩
    · have e : u = false := by rw [hu]; unfold defB; simp [h, hq]
      subst e
      clear hu
      have e1 : ((s.extract 0 3).toList == [100, 101, 102]) = false := beq_eq_false_iff_ne.2 hq
      have e2 : ((s.extract 0 3).toList = [100, 101, 102]) = False := eq_false hq
      go_enter Tryz.func142, Tryz.ntmps142
      go_wp2_with fail
      go_ret
      exact ⟨rfl, rfl⟩
  · have e : defB s = false := by unfold defB; rw [decide_eq_false h]; rfl
    have d1 : decide ((3 : Int) ≤ (s.size : Int)) = false := decide_eq_false (by omega)
    rw [e]
    clear e
    go_enter Tryz.func142, Tryz.ntmps142
    go_wp2_with fail
    go_ret
    exact ⟨rfl, rfl⟩
set_option maxHeartbeats 2000000 in
theorem hpre (s : ByteArray) (w : World) : Calls Tryz.prog 102 #[.string s, .string ⟨#[100, 101, 102]⟩] w fun e w' => e = .returned (.bool (defB s)) ∧ w = w' := by
  have H := Lib.hid (hpre0 s w)
  generalize defB s = u at *
  go_enter Tryz.func102, Tryz.ntmps102
  go_wp2_with fail
  refine H.out.mono ?_
  rintro e w1 ⟨rfl, rfl⟩
  go_wp2_with fail
  go_ret
  exact ⟨rfl, rfl⟩
set_option maxHeartbeats 4000000 in
theorem cbody_ok (s : ByteArray) (w : World) : Calls Tryz.prog 52 #[.string s] w fun e w' => e = .returned (.bool (bodyB s)) ∧ w = w' := by
  have H := Lib.hid (hpre s w)
  cases hd : defB s with
  | true =>
    have e : bodyB s = true := by unfold bodyB; rw [hd]; rfl
    rw [e]
    rw [hd] at H
    clear e hd
    go_enter Tryz.func52, Tryz.ntmps52
    go_wp2_with fail
    refine H.out.mono ?_
    rintro e w1 ⟨rfl, rfl⟩
    go_wp2_with fail
    go_ret
    exact ⟨rfl, rfl⟩
  | false =>
    have e : bodyB s = nameB s := by unfold bodyB; rw [hd]; rfl
    rw [e]
    rw [hd] at H
    clear e hd
    obtain ⟨u, hu⟩ : ∃ u, u = nameB s := ⟨_, rfl⟩
    have HU := Lib.hid hu
    rw [← hu]
    clear hu
    go_enter Tryz.func52, Tryz.ntmps52
    go_wp2_with fail
    refine H.out.mono ?_
    rintro e w1 ⟨rfl, rfl⟩
    go_wp2_with fail
    all_goals
      go_ret
      refine ⟨ret_bool ?_, rfl⟩
      rw [HU.out]; unfold nameB
      simp only [beq_iff_eq, beq_eq_false_iff_ne] at *
      simp_all
end
end Go.Proofs.YtphdkcdkhklicaaGreatDoor
