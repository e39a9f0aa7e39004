/- Package copyistref01: tail, Is, point, List, Valid, Len. -/
import Derived.Test.YtmnmloebomlllaaDoorMix
import Derived.Test.YtmnmloebomlllaaDoorKrC
import Derived.IntWalk
namespace Go.Proofs.YtmnmloebomlllaaDoor
open Go.RowKit
set_option linter.unusedVariables false
set_option linter.unusedSimpArgs false

theorem bAt_get (s : ByteArray) (i : Nat) (h : i < s.size) : bAt s.data.toList i = s[i].toNat := by
  unfold bAt
  rw [List.getD_eq_getElem?_getD, List.getElem?_eq_getElem (by simpa using h)]
  rfl
set_option maxHeartbeats 400000 in
theorem tail_yes (s : ByteArray) (i : Nat) (w : World) (hs : s.size ≤ 1000000000) (hi : i < 10) (h : tlN s.size i (bAt s.data.toList i)) : Calls Tryd.prog 75 #[.string s, .int .i64 i] w fun e w' => e = .returned (.bool true) ∧ w = w' := by
  obtain ⟨h1, h2, h3⟩ := h
  rw [bAt_get s i h1] at h2 h3
  go_enter Tryd.func75, Tryd.ntmps75
  go_wp2
  go_ret
  exact ⟨ret_bool (by first | (simp only [decide_eq_true_eq, decide_eq_false_iff_not]; omega) | rfl), rfl⟩
set_option maxHeartbeats 400000 in
theorem tail_no (s : ByteArray) (i : Nat) (w : World) (hs : s.size ≤ 1000000000) (hi : i < 10) (h : ¬ tlN s.size i (bAt s.data.toList i)) : Calls Tryd.prog 75 #[.string s, .int .i64 i] w fun e w' => e = .returned (.bool false) ∧ w = w' := by
  by_cases h1 : i < s.size
  · unfold tlN at h
    rw [bAt_get s i h1] at h
    by_cases h2 : s[i].toNat < 128
    · clear h
      go_enter Tryd.func75, Tryd.ntmps75
      go_wp2
      go_ret
      exact ⟨ret_bool (by first | (simp only [decide_eq_true_eq, decide_eq_false_iff_not]; omega) | rfl), rfl⟩
    · have h3 : 192 ≤ s[i].toNat := by omega
      have h4 : 128 ≤ s[i].toNat := by omega
      clear h h2
      go_enter Tryd.func75, Tryd.ntmps75
      go_wp2
      go_ret
      exact ⟨ret_bool (by first | (simp only [decide_eq_true_eq, decide_eq_false_iff_not]; omega) | rfl), rfl⟩
  · have h2 : s.size ≤ i := by omega
    clear h h1
    go_enter Tryd.func75, Tryd.ntmps75
    go_wp2
    go_ret
    exact ⟨ret_bool (by first | (simp only [decide_eq_true_eq, decide_eq_false_iff_not]; omega) | rfl), rfl⟩
theorem isI (c : Nat) (h : isN c) : (c : Int) ≤ 1114111 ∧ ((c : Int) < 55296 ∨ (57343 : Int) < c) := by unfold isN at h; omega
theorem notI (c : Nat) (h : ¬ isN c) : (1114111 : Int) < c ∨ ((c : Int) ≤ 1114111 ∧ (55296 : Int) ≤ c ∧ (c : Int) ≤ 57343) := by unfold isN at h; omega
def IsI (c : Int) : Bool := decide (c ≤ 1114111) && (decide (c < 55296) || decide (57343 < c))
theorem is_yes1 (c : Int) (w : World) (h0 : 0 ≤ c) (h1 : c < 55296) : Calls Tryd.prog 76 #[.int .i64 c] w fun e w' => e = .returned (.bool true) ∧ w = w' := by
  have h3 : decide (c ≤ 1114111) = true := decide_eq_true (by omega)
  have h4 : decide (c < 55296) = true := decide_eq_true h1
  go_enter Tryd.func76, Tryd.ntmps76
  go_wp2
  go_ret
  exact ⟨rfl, rfl⟩
theorem is_yes2 (c : Int) (w : World) (h0 : 0 ≤ c) (h1 : c ≤ 1114111) (h2 : 57343 < c) : Calls Tryd.prog 76 #[.int .i64 c] w fun e w' => e = .returned (.bool true) ∧ w = w' := by
  have h3 : decide (c ≤ 1114111) = true := decide_eq_true h1
  have h4 : decide (c < 55296) = false := decide_eq_false (by omega)
  have h5 : decide (57343 < c) = true := decide_eq_true h2
  clear h1 h2
  go_enter Tryd.func76, Tryd.ntmps76
  go_wp2
  go_ret
  exact ⟨rfl, rfl⟩
theorem is_no1 (c : Int) (w : World) (h0 : 0 ≤ c) (h1 : 1114111 < c) : Calls Tryd.prog 76 #[.int .i64 c] w fun e w' => e = .returned (.bool false) ∧ w = w' := by
  have h3 : decide (c ≤ 1114111) = false := decide_eq_false (by omega)
  clear h1
  go_enter Tryd.func76, Tryd.ntmps76
  go_wp2
  go_ret
  exact ⟨rfl, rfl⟩
theorem is_no2 (c : Int) (w : World) (h0 : 55296 ≤ c) (h1 : c ≤ 57343) : Calls Tryd.prog 76 #[.int .i64 c] w fun e w' => e = .returned (.bool false) ∧ w = w' := by
  have h2 : 0 ≤ c := by omega
  have h3 : decide (c ≤ 1114111) = true := decide_eq_true (by omega)
  have h4 : decide (c < 55296) = false := decide_eq_false (by omega)
  have h5 : decide (57343 < c) = false := decide_eq_false (by omega)
  clear h0 h1
  go_enter Tryd.func76, Tryd.ntmps76
  go_wp2
  go_ret
  exact ⟨rfl, rfl⟩
theorem is_yes (c : Nat) (w : World) (h : isN c) : Calls Tryd.prog 76 #[.int .i64 c] w fun e w' => e = .returned (.bool true) ∧ w = w' := by
  obtain ⟨h1, h2 | h2⟩ := isI c h
  · exact is_yes1 c w (by omega) h2
  · exact is_yes2 c w (by omega) h1 h2
theorem is_no (c : Nat) (w : World) (h : ¬ isN c) : Calls Tryd.prog 76 #[.int .i64 c] w fun e w' => e = .returned (.bool false) ∧ w = w' := by
  rcases notI c h with h1 | ⟨_, h2, h3⟩
  · exact is_no1 c w (by omega) h1
  · exact is_no2 c w h2 h3
end Go.Proofs.YtmnmloebomlllaaDoor
