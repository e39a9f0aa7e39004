/- package column: parts. -/
import Derived.Test.YtphdkcdkhklicaaGreatDoorCfE
import Derived.Test.YtphdkcdkhklicaaGreatDoorLayF
import Derived.Test.YtphdkcdkhklicaaGreatDoorZ01
import Derived.Shelf.Strings.FieldsFuncAny
namespace Go.Proofs.YtphdkcdkhklicaaGreatDoor
open Go.RowKit Go.Lib
set_option linter.unusedVariables false
set_option linter.unusedSimpArgs false
section
variable {w w' : World}
set_option maxHeartbeats 1000000 in
theorem isb_ok (x : Nat) (w : World) : Calls Tryz.prog 118 #[.int .i32 x] w fun e w' => e = .returned (.bool (isB x)) ∧ w = w' := by
  by_cases h1 : x = 32
  · subst h1
    go_enter Tryz.func118, Tryz.ntmps118
    go_wp2_with fail
    go_ret
    exact ⟨rfl, rfl⟩
  · by_cases h2 : x = 9
    · subst h2
      go_enter Tryz.func118, Tryz.ntmps118
      go_wp2_with fail
      go_ret
      exact ⟨rfl, rfl⟩
    · have d1 : ((x : Int) == (32 : Int)) = false := by rw [beq_eq_false_iff_ne]; omega
      have d2 : ((x : Int) = (32 : Int)) = False := eq_false (by omega)
      have d3 : ((x : Int) == (9 : Int)) = false := by rw [beq_eq_false_iff_ne]; omega
      have d4 : ((x : Int) = (9 : Int)) = False := eq_false (by omega)
      have e : isB x = ((x : Int) == (10 : Int)) := by
        unfold isB
        by_cases h3 : x = 10
        · subst h3; rfl
        · rw [show ((x : Int) == (10 : Int)) = false by rw [beq_eq_false_iff_ne]; omega]; simp [h1, h2, h3]
      rw [e]
      clear e h1 h2
      go_enter Tryz.func118, Tryz.ntmps118
      go_wp2_with fail
      go_ret
      exact ⟨rfl, rfl⟩
theorem parts_pred (w : World) : PredAtRunes Tryz.prog 118 #[] isB w := fun W x _ _ => by
  unfold FnGives
  rw [Array.append_empty]
  exact (isb_ok x W).mono fun e w' ⟨h1, h2⟩ => ⟨h1, 0, h2 ▸ rfl⟩
abbrev encW (s : ByteArray) : List Value := [.string s]
theorem eltW : Elt encW 99 9 1 16 (.string ⟨#[]⟩) := ⟨Tryz.underlying99, by kernel_rfl, rfl, by omega, fun _ => rfl, fun x u hu => by simp at hu; subst hu; rfl⟩
theorem cellsW (L : List ByteArray) : cellsL encW L = L.map Value.string := by
  induction L with
  | nil => rfl
  | cons x L ih =>
    show encW x ++ cellsL encW L = _
    rw [ih]; rfl
set_option maxHeartbeats 1000000 in
/-- The words of a valid string. -/
theorem parts_ok {s : ByteArray} {cs : List Nat} (h : charsD s.data.toList = some cs) (hs : s.size ≤ 1000000000) (w : World) :
    Calls Tryz.prog 68 #[.string s] w fun e w' => ∃ A, e = .returned (.slice (some ⟨A, 0, none⟩) (wordsC cs).length (wordsC cs).length) ∧ ROwn encW 9 1 w.heap.size w' (.slice (some ⟨A, 0, none⟩) (wordsC cs).length (wordsC cs).length) ((wordsC cs).map encS) ∧ Below w.heap.size w w' := by
  have hf := Any.strings_FieldsFunc_runes Tryz.laysFields 118 #[] (enters_mk Tryz.func118 (by kernel_rfl) rfl) isB s w (by omega) (parts_pred w) (by kernel_rfl) (by kernel_rfl)
  rw [fields_words h, List.length_map] at hf
  have HF := Lib.hid hf
  clear hf h hs
  go_enter Tryz.func68, Tryz.ntmps68
  go_wp2_with fail
  refine HF.out.mono ?_
  rintro e w1 ⟨A, rfl, hA, hown, hb⟩
  have H1 := Lib.hid (show ROwn encW 9 1 w.heap.size w1 (.slice (some ⟨A, 0, none⟩) (wordsC cs).length (wordsC cs).length) ((wordsC cs).map encS) by
    unfold ROwn; rw [cellsW, List.length_map]; exact hown)
  have B1 := Lib.hid hb
  clear hown hb hA
  go_wp2_with fail
  go_ret
  exact ⟨A, rfl, H1.out, B1.out⟩
end
end Go.Proofs.YtphdkcdkhklicaaGreatDoor
