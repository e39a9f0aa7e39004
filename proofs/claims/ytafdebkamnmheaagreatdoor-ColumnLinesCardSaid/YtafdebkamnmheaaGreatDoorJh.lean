import Derived.Test.YtafdebkamnmheaaGreatDoorJa
import Derived.Test.YtafdebkamnmheaaGreatDoorJb
import Derived.IntWalk
/- Package copyistref01: tail, Is, point, List, Valid, Len. -/
namespace Go.Proofs.YtafdebkamnmheaaGreatDoor
open Go.RowKit
set_option linter.unusedVariables false
set_option linter.unusedSimpArgs false

theorem bAt_get (s : ByteArray) (i : Nat) (h : i < s.size) : bAt s.data.toList i = s[i].toNat := by
  unfold bAt
  rw [List.getD_eq_getElem?_getD, List.getElem?_eq_getElem (by simpa using h)]
  rfl
set_option maxHeartbeats 400000 in
theorem tail_yes (s : ByteArray) (i : Nat) (w : World) (hs : s.size ≤ 1000000000) (hi : i < 10) (h : tlN s.size i (bAt s.data.toList i)) : Calls Tryz.prog 131 #[.string s, .int .i64 i] w fun e w' => e = .returned (.bool true) ∧ w = w' := by
  obtain ⟨h1, h2, h3⟩ := h
  rw [bAt_get s i h1] at h2 h3
  go_enter Tryz.func131, Tryz.ntmps131
  go_wp2
  go_ret
  exact ⟨ret_bool (by first | (simp only [decide_eq_true_eq, decide_eq_false_iff_not]; omega) | rfl), rfl⟩
set_option maxHeartbeats 400000 in
theorem tail_no (s : ByteArray) (i : Nat) (w : World) (hs : s.size ≤ 1000000000) (hi : i < 10) (h : ¬ tlN s.size i (bAt s.data.toList i)) : Calls Tryz.prog 131 #[.string s, .int .i64 i] w fun e w' => e = .returned (.bool false) ∧ w = w' := by
  by_cases h1 : i < s.size
  · unfold tlN at h
    rw [bAt_get s i h1] at h
    by_cases h2 : s[i].toNat < 128
    · clear h
      go_enter Tryz.func131, Tryz.ntmps131
      go_wp2
      go_ret
      exact ⟨ret_bool (by first | (simp only [decide_eq_true_eq, decide_eq_false_iff_not]; omega) | rfl), rfl⟩
    · have h3 : 192 ≤ s[i].toNat := by omega
      have h4 : 128 ≤ s[i].toNat := by omega
      clear h h2
      go_enter Tryz.func131, Tryz.ntmps131
      go_wp2
      go_ret
      exact ⟨ret_bool (by first | (simp only [decide_eq_true_eq, decide_eq_false_iff_not]; omega) | rfl), rfl⟩
  · have h2 : s.size ≤ i := by omega
    clear h h1
    go_enter Tryz.func131, Tryz.ntmps131
    go_wp2
    go_ret
    exact ⟨ret_bool (by first | (simp only [decide_eq_true_eq, decide_eq_false_iff_not]; omega) | rfl), rfl⟩
theorem isI (c : Nat) (h : isN c) : (c : Int) ≤ 1114111 ∧ ((c : Int) < 55296 ∨ (57343 : Int) < c) := by unfold isN at h; omega
theorem notI (c : Nat) (h : ¬ isN c) : (1114111 : Int) < c ∨ ((c : Int) ≤ 1114111 ∧ (55296 : Int) ≤ c ∧ (c : Int) ≤ 57343) := by unfold isN at h; omega
def IsI (c : Int) : Bool := decide (c ≤ 1114111) && (decide (c < 55296) || decide (57343 < c))
theorem is_yes1 (c : Int) (w : World) (h0 : 0 ≤ c) (h1 : c < 55296) : Calls Tryz.prog 132 #[.int .i64 c] w fun e w' => e = .returned (.bool true) ∧ w = w' := by
  have h3 : decide (c ≤ 1114111) = true := decide_eq_true (by omega)
  have h4 : decide (c < 55296) = true := decide_eq_true h1
  go_enter Tryz.func132, Tryz.ntmps132
  go_wp2
  go_ret
  exact ⟨rfl, rfl⟩
theorem is_yes2 (c : Int) (w : World) (h0 : 0 ≤ c) (h1 : c ≤ 1114111) (h2 : 57343 < c) : Calls Tryz.prog 132 #[.int .i64 c] w fun e w' => e = .returned (.bool true) ∧ w = w' := by
  have h3 : decide (c ≤ 1114111) = true := decide_eq_true h1
  have h4 : decide (c < 55296) = false := decide_eq_false (by omega)
  have h5 : decide (57343 < c) = true := decide_eq_true h2
  clear h1 h2
  go_enter Tryz.func132, Tryz.ntmps132
  go_wp2
  go_ret
  exact ⟨rfl, rfl⟩
theorem is_no1 (c : Int) (w : World) (h0 : 0 ≤ c) (h1 : 1114111 < c) : Calls Tryz.prog 132 #[.int .i64 c] w fun e w' => e = .returned (.bool false) ∧ w = w' := by
  have h3 : decide (c ≤ 1114111) = false := decide_eq_false (by omega)
  clear h1
  go_enter Tryz.func132, Tryz.ntmps132
  go_wp2
  go_ret
  exact ⟨rfl, rfl⟩
theorem is_no2 (c : Int) (w : World) (h0 : 55296 ≤ c) (h1 : c ≤ 57343) : Calls Tryz.prog 132 #[.int .i64 c] w fun e w' => e = .returned (.bool false) ∧ w = w' := by
  have h2 : 0 ≤ c := by omega
  have h3 : decide (c ≤ 1114111) = true := decide_eq_true (by omega)
  have h4 : decide (c < 55296) = false := decide_eq_false (by omega)
  have h5 : decide (57343 < c) = false := decide_eq_false (by omega)
  clear h0 h1
  go_enter Tryz.func132, Tryz.ntmps132
  go_wp2
  go_ret
  exact ⟨rfl, rfl⟩
theorem is_yes (c : Nat) (w : World) (h : isN c) : Calls Tryz.prog 132 #[.int .i64 c] w fun e w' => e = .returned (.bool true) ∧ w = w' := by
  obtain ⟨h1, h2 | h2⟩ := isI c h
  · exact is_yes1 c w (by omega) h2
  · exact is_yes2 c w (by omega) h1 h2
theorem is_no (c : Nat) (w : World) (h : ¬ isN c) : Calls Tryz.prog 132 #[.int .i64 c] w fun e w' => e = .returned (.bool false) ∧ w = w' := by
  rcases notI c h with h1 | ⟨_, h2, h3⟩
  · exact is_no1 c w (by omega) h1
  · exact is_no2 c w h2 h3
end Go.Proofs.YtafdebkamnmheaaGreatDoor
/- Package copyistref01: point: the first character of a string and its length, as ptL says. -/
namespace Go.Proofs.YtafdebkamnmheaaGreatDoor
open Go.RowKit
set_option linter.unusedVariables false
set_option linter.unusedSimpArgs false
def PtPost (w : World) (c n : Nat) (e : Ending) (w' : World) : Prop := e = .returned (.tuple #[.int .i64 c, .int .i64 n]) ∧ Below w.heap.size w w'

theorem below_drewN {B : Nat} {a w : World} (h : Below B a w) (n : Nat) : Below B a (w.drewN n) := ⟨h.os, h.tape, h.output, h.size, h.block⟩

set_option maxRecDepth 100000 in
set_option maxHeartbeats 800000 in
theorem ptA (s : ByteArray) (w : World) (hs : s.size ≤ 1000000000) (hn : 0 < s.size) (a0 : (s[0].toNat : Int) < 128) :
    Calls Tryz.prog 98 #[.string s] w (PtPost w s[0].toNat 1) := by
  have z0 : 0 < s.size := by omega
  have l0 : (s[0].toNat : Int) < 256 := by have := s[0].toNat_lt; omega
  have y0 : (0 : Int) < s.size := by omega
  have d0 : decide ((s[0].toNat : Int) < (128 : Int)) = true := decide_eq_true (by omega)
  have d1 : decide ((194 : Int) ≤ (s[0].toNat : Int)) = false := decide_eq_false (by omega)
  have d2 : decide ((s[0].toNat : Int) < (224 : Int)) = true := decide_eq_true (by omega)
  have d3 : decide ((224 : Int) ≤ (s[0].toNat : Int)) = false := decide_eq_false (by omega)
  have d4 : decide ((s[0].toNat : Int) < (240 : Int)) = true := decide_eq_true (by omega)
  have d5 : decide ((240 : Int) ≤ (s[0].toNat : Int)) = false := decide_eq_false (by omega)
  have d6 : decide ((s[0].toNat : Int) < (245 : Int)) = true := decide_eq_true (by omega)
  clear a0
  go_enter Tryz.func98, Tryz.ntmps98
  go_wp2_with fail
  go_ret2
  exact ⟨rfl, Below.refl _ _⟩

set_option maxRecDepth 100000 in
set_option maxHeartbeats 800000 in
theorem ptB1 (s : ByteArray) (w : World) (hs : s.size ≤ 1000000000) (hn : 1 < s.size) (a0 : 194 ≤ (s[0].toNat : Int)) (a1 : (s[0].toNat : Int) < 224) (a2 : tlN s.size 1 (bAt s.data.toList 1)) (c : Nat) (hc : ((s[0].toNat : Int) - (192 : Int)) * (64 : Int) + (s[1].toNat : Int) - (128 : Int) = (c : Int)) :
    Calls Tryz.prog 98 #[.string s] w (PtPost w c 2) := by
  have z0 : 0 < s.size := by omega
  have l0 : (s[0].toNat : Int) < 256 := by have := s[0].toNat_lt; omega
  have y0 : (0 : Int) < s.size := by omega
  have l1 : (s[1].toNat : Int) < 256 := by have := s[1].toNat_lt; omega
  have y1 : (1 : Int) < s.size := by omega
  have w0 : IntKind.i64.wrap ((s[0].toNat : Int) - (192 : Int)) = (s[0].toNat : Int) - (192 : Int) := IntWalk.i64_in _ (by omega)
  have w1 : IntKind.i64.wrap (((s[0].toNat : Int) - (192 : Int)) * (64 : Int)) = ((s[0].toNat : Int) - (192 : Int)) * (64 : Int) := IntWalk.i64_in _ (by omega)
  have w2 : IntKind.i64.wrap (((s[0].toNat : Int) - (192 : Int)) * (64 : Int) + (s[1].toNat : Int)) = ((s[0].toNat : Int) - (192 : Int)) * (64 : Int) + (s[1].toNat : Int) := IntWalk.i64_in _ (by omega)
  have w3 : IntKind.i64.wrap (((s[0].toNat : Int) - (192 : Int)) * (64 : Int) + (s[1].toNat : Int) - (128 : Int)) = ((s[0].toNat : Int) - (192 : Int)) * (64 : Int) + (s[1].toNat : Int) - (128 : Int) := IntWalk.i64_in _ (by omega)
  have HC := Lib.hid hc
  clear hc
  have d0 : decide ((s[0].toNat : Int) < (128 : Int)) = false := decide_eq_false (by omega)
  have d1 : decide ((194 : Int) ≤ (s[0].toNat : Int)) = true := decide_eq_true (by omega)
  have d2 : decide ((s[0].toNat : Int) < (224 : Int)) = true := decide_eq_true (by omega)
  have d3 : decide ((224 : Int) ≤ (s[0].toNat : Int)) = false := decide_eq_false (by omega)
  have d4 : decide ((s[0].toNat : Int) < (240 : Int)) = true := decide_eq_true (by omega)
  have d5 : decide ((240 : Int) ≤ (s[0].toNat : Int)) = false := decide_eq_false (by omega)
  have d6 : decide ((s[0].toNat : Int) < (245 : Int)) = true := decide_eq_true (by omega)
  clear a0 a1
  go_enter Tryz.func98, Tryz.ntmps98
  go_wp2_with fail
  refine (tail_yes s 1 w hs (by omega) a2).mono ?_
  rintro e w' ⟨rfl, rfl⟩
  go_wp2_with fail
  rw [HC.out]
  go_ret2
  exact ⟨rfl, Below.refl _ _⟩

set_option maxRecDepth 100000 in
set_option maxHeartbeats 800000 in
theorem ptB2 (s : ByteArray) (w : World) (hs : s.size ≤ 1000000000) (hn : 0 < s.size) (a0 : 194 ≤ (s[0].toNat : Int)) (a1 : (s[0].toNat : Int) < 224) (a2 : ¬ tlN s.size 1 (bAt s.data.toList 1)) :
    Calls Tryz.prog 98 #[.string s] w (PtPost w 0 0) := by
  have z0 : 0 < s.size := by omega
  have l0 : (s[0].toNat : Int) < 256 := by have := s[0].toNat_lt; omega
  have y0 : (0 : Int) < s.size := by omega
  have d0 : decide ((s[0].toNat : Int) < (128 : Int)) = false := decide_eq_false (by omega)
  have d1 : decide ((194 : Int) ≤ (s[0].toNat : Int)) = true := decide_eq_true (by omega)
  have d2 : decide ((s[0].toNat : Int) < (224 : Int)) = true := decide_eq_true (by omega)
  have d3 : decide ((224 : Int) ≤ (s[0].toNat : Int)) = false := decide_eq_false (by omega)
  have d4 : decide ((s[0].toNat : Int) < (240 : Int)) = true := decide_eq_true (by omega)
  have d5 : decide ((240 : Int) ≤ (s[0].toNat : Int)) = false := decide_eq_false (by omega)
  have d6 : decide ((s[0].toNat : Int) < (245 : Int)) = true := decide_eq_true (by omega)
  clear a0 a1
  go_enter Tryz.func98, Tryz.ntmps98
  go_wp2_with fail
  refine (tail_no s 1 w hs (by omega) a2).mono ?_
  rintro e w' ⟨rfl, rfl⟩
  go_wp2_with fail
  go_ret2
  exact ⟨rfl, Below.refl _ _⟩

set_option maxRecDepth 100000 in
set_option maxHeartbeats 800000 in
theorem ptC (s : ByteArray) (w : World) (hs : s.size ≤ 1000000000) (hn : 0 < s.size) (a0 : 128 ≤ (s[0].toNat : Int)) (a1 : (s[0].toNat : Int) < 194) :
    Calls Tryz.prog 98 #[.string s] w (PtPost w 0 0) := by
  have z0 : 0 < s.size := by omega
  have l0 : (s[0].toNat : Int) < 256 := by have := s[0].toNat_lt; omega
  have y0 : (0 : Int) < s.size := by omega
  have d0 : decide ((s[0].toNat : Int) < (128 : Int)) = false := decide_eq_false (by omega)
  have d1 : decide ((194 : Int) ≤ (s[0].toNat : Int)) = false := decide_eq_false (by omega)
  have d2 : decide ((s[0].toNat : Int) < (224 : Int)) = true := decide_eq_true (by omega)
  have d3 : decide ((224 : Int) ≤ (s[0].toNat : Int)) = false := decide_eq_false (by omega)
  have d4 : decide ((s[0].toNat : Int) < (240 : Int)) = true := decide_eq_true (by omega)
  have d5 : decide ((240 : Int) ≤ (s[0].toNat : Int)) = false := decide_eq_false (by omega)
  have d6 : decide ((s[0].toNat : Int) < (245 : Int)) = true := decide_eq_true (by omega)
  clear a0 a1
  go_enter Tryz.func98, Tryz.ntmps98
  go_wp2_with fail
  go_ret2
  exact ⟨rfl, Below.refl _ _⟩

set_option maxRecDepth 100000 in
set_option maxHeartbeats 800000 in
theorem ptD1 (s : ByteArray) (w : World) (hs : s.size ≤ 1000000000) (hn : 2 < s.size) (a0 : 224 ≤ (s[0].toNat : Int)) (a1 : (s[0].toNat : Int) < 240) (a2 : tlN s.size 1 (bAt s.data.toList 1)) (a3 : tlN s.size 2 (bAt s.data.toList 2)) (c : Nat) (hc : (((s[0].toNat : Int) - (224 : Int)) * (64 : Int) + (s[1].toNat : Int) - (128 : Int)) * (64 : Int) + (s[2].toNat : Int) - (128 : Int) = (c : Int)) (g0 : 2048 ≤ (c : Int)) (g1 : isN c) :
    Calls Tryz.prog 98 #[.string s] w (PtPost w c 3) := by
  have z0 : 0 < s.size := by omega
  have l0 : (s[0].toNat : Int) < 256 := by have := s[0].toNat_lt; omega
  have y0 : (0 : Int) < s.size := by omega
  have l1 : (s[1].toNat : Int) < 256 := by have := s[1].toNat_lt; omega
  have y1 : (1 : Int) < s.size := by omega
  have l2 : (s[2].toNat : Int) < 256 := by have := s[2].toNat_lt; omega
  have y2 : (2 : Int) < s.size := by omega
  have w0 : IntKind.i64.wrap ((s[0].toNat : Int) - (224 : Int)) = (s[0].toNat : Int) - (224 : Int) := IntWalk.i64_in _ (by omega)
  have w1 : IntKind.i64.wrap (((s[0].toNat : Int) - (224 : Int)) * (64 : Int)) = ((s[0].toNat : Int) - (224 : Int)) * (64 : Int) := IntWalk.i64_in _ (by omega)
  have w2 : IntKind.i64.wrap (((s[0].toNat : Int) - (224 : Int)) * (64 : Int) + (s[1].toNat : Int)) = ((s[0].toNat : Int) - (224 : Int)) * (64 : Int) + (s[1].toNat : Int) := IntWalk.i64_in _ (by omega)
  have w3 : IntKind.i64.wrap (((s[0].toNat : Int) - (224 : Int)) * (64 : Int) + (s[1].toNat : Int) - (128 : Int)) = ((s[0].toNat : Int) - (224 : Int)) * (64 : Int) + (s[1].toNat : Int) - (128 : Int) := IntWalk.i64_in _ (by omega)
  have w4 : IntKind.i64.wrap ((((s[0].toNat : Int) - (224 : Int)) * (64 : Int) + (s[1].toNat : Int) - (128 : Int)) * (64 : Int)) = (((s[0].toNat : Int) - (224 : Int)) * (64 : Int) + (s[1].toNat : Int) - (128 : Int)) * (64 : Int) := IntWalk.i64_in _ (by omega)
  have w5 : IntKind.i64.wrap ((((s[0].toNat : Int) - (224 : Int)) * (64 : Int) + (s[1].toNat : Int) - (128 : Int)) * (64 : Int) + (s[2].toNat : Int)) = (((s[0].toNat : Int) - (224 : Int)) * (64 : Int) + (s[1].toNat : Int) - (128 : Int)) * (64 : Int) + (s[2].toNat : Int) := IntWalk.i64_in _ (by omega)
  have w6 : IntKind.i64.wrap ((((s[0].toNat : Int) - (224 : Int)) * (64 : Int) + (s[1].toNat : Int) - (128 : Int)) * (64 : Int) + (s[2].toNat : Int) - (128 : Int)) = (((s[0].toNat : Int) - (224 : Int)) * (64 : Int) + (s[1].toNat : Int) - (128 : Int)) * (64 : Int) + (s[2].toNat : Int) - (128 : Int) := IntWalk.i64_in _ (by omega)
  have HC := Lib.hid hc
  clear hc
  have d0 : decide ((s[0].toNat : Int) < (128 : Int)) = false := decide_eq_false (by omega)
  have d1 : decide ((194 : Int) ≤ (s[0].toNat : Int)) = true := decide_eq_true (by omega)
  have d2 : decide ((s[0].toNat : Int) < (224 : Int)) = false := decide_eq_false (by omega)
  have d3 : decide ((224 : Int) ≤ (s[0].toNat : Int)) = true := decide_eq_true (by omega)
  have d4 : decide ((s[0].toNat : Int) < (240 : Int)) = true := decide_eq_true (by omega)
  have d5 : decide ((240 : Int) ≤ (s[0].toNat : Int)) = false := decide_eq_false (by omega)
  have d6 : decide ((s[0].toNat : Int) < (245 : Int)) = true := decide_eq_true (by omega)
  have d7 : decide ((2048 : Int) ≤ (c : Int)) = true := decide_eq_true (by omega)
  clear g0
  clear a0 a1
  go_enter Tryz.func98, Tryz.ntmps98
  go_wp2_with fail
  refine (tail_yes s 1 w hs (by omega) a2).mono ?_
  rintro e w' ⟨rfl, rfl⟩
  go_wp2_with fail
  refine (tail_yes s 2 w hs (by omega) a3).mono ?_
  rintro e w' ⟨rfl, rfl⟩
  go_wp2_with fail
  go_quiet (fail)
  rw [HC.out]
  go_wp2_with fail
  refine (is_yes c _ g1).mono ?_
  rintro e w' ⟨rfl, rfl⟩
  go_wp2_with fail
  go_ret2
  exact ⟨rfl, below_drewN (Below.refl _ _) _⟩

set_option maxRecDepth 100000 in
set_option maxHeartbeats 800000 in
theorem ptD2 (s : ByteArray) (w : World) (hs : s.size ≤ 1000000000) (hn : 2 < s.size) (a0 : 224 ≤ (s[0].toNat : Int)) (a1 : (s[0].toNat : Int) < 240) (a2 : tlN s.size 1 (bAt s.data.toList 1)) (a3 : tlN s.size 2 (bAt s.data.toList 2)) (c : Nat) (hc : (((s[0].toNat : Int) - (224 : Int)) * (64 : Int) + (s[1].toNat : Int) - (128 : Int)) * (64 : Int) + (s[2].toNat : Int) - (128 : Int) = (c : Int)) (g0 : 2048 ≤ (c : Int)) (g1 : ¬ isN c) :
    Calls Tryz.prog 98 #[.string s] w (PtPost w 0 0) := by
  have z0 : 0 < s.size := by omega
  have l0 : (s[0].toNat : Int) < 256 := by have := s[0].toNat_lt; omega
  have y0 : (0 : Int) < s.size := by omega
  have l1 : (s[1].toNat : Int) < 256 := by have := s[1].toNat_lt; omega
  have y1 : (1 : Int) < s.size := by omega
  have l2 : (s[2].toNat : Int) < 256 := by have := s[2].toNat_lt; omega
  have y2 : (2 : Int) < s.size := by omega
  have w0 : IntKind.i64.wrap ((s[0].toNat : Int) - (224 : Int)) = (s[0].toNat : Int) - (224 : Int) := IntWalk.i64_in _ (by omega)
  have w1 : IntKind.i64.wrap (((s[0].toNat : Int) - (224 : Int)) * (64 : Int)) = ((s[0].toNat : Int) - (224 : Int)) * (64 : Int) := IntWalk.i64_in _ (by omega)
  have w2 : IntKind.i64.wrap (((s[0].toNat : Int) - (224 : Int)) * (64 : Int) + (s[1].toNat : Int)) = ((s[0].toNat : Int) - (224 : Int)) * (64 : Int) + (s[1].toNat : Int) := IntWalk.i64_in _ (by omega)
  have w3 : IntKind.i64.wrap (((s[0].toNat : Int) - (224 : Int)) * (64 : Int) + (s[1].toNat : Int) - (128 : Int)) = ((s[0].toNat : Int) - (224 : Int)) * (64 : Int) + (s[1].toNat : Int) - (128 : Int) := IntWalk.i64_in _ (by omega)
  have w4 : IntKind.i64.wrap ((((s[0].toNat : Int) - (224 : Int)) * (64 : Int) + (s[1].toNat : Int) - (128 : Int)) * (64 : Int)) = (((s[0].toNat : Int) - (224 : Int)) * (64 : Int) + (s[1].toNat : Int) - (128 : Int)) * (64 : Int) := IntWalk.i64_in _ (by omega)
  have w5 : IntKind.i64.wrap ((((s[0].toNat : Int) - (224 : Int)) * (64 : Int) + (s[1].toNat : Int) - (128 : Int)) * (64 : Int) + (s[2].toNat : Int)) = (((s[0].toNat : Int) - (224 : Int)) * (64 : Int) + (s[1].toNat : Int) - (128 : Int)) * (64 : Int) + (s[2].toNat : Int) := IntWalk.i64_in _ (by omega)
  have w6 : IntKind.i64.wrap ((((s[0].toNat : Int) - (224 : Int)) * (64 : Int) + (s[1].toNat : Int) - (128 : Int)) * (64 : Int) + (s[2].toNat : Int) - (128 : Int)) = (((s[0].toNat : Int) - (224 : Int)) * (64 : Int) + (s[1].toNat : Int) - (128 : Int)) * (64 : Int) + (s[2].toNat : Int) - (128 : Int) := IntWalk.i64_in _ (by omega)
  have HC := Lib.hid hc
  clear hc
  have d0 : decide ((s[0].toNat : Int) < (128 : Int)) = false := decide_eq_false (by omega)
  have d1 : decide ((194 : Int) ≤ (s[0].toNat : Int)) = true := decide_eq_true (by omega)
  have d2 : decide ((s[0].toNat : Int) < (224 : Int)) = false := decide_eq_false (by omega)
  have d3 : decide ((224 : Int) ≤ (s[0].toNat : Int)) = true := decide_eq_true (by omega)
  have d4 : decide ((s[0].toNat : Int) < (240 : Int)) = true := decide_eq_true (by omega)
  have d5 : decide ((240 : Int) ≤ (s[0].toNat : Int)) = false := decide_eq_false (by omega)
  have d6 : decide ((s[0].toNat : Int) < (245 : Int)) = true := decide_eq_true (by omega)
  have d7 : decide ((2048 : Int) ≤ (c : Int)) = true := decide_eq_true (by omega)
  clear g0
  clear a0 a1
  go_enter Tryz.func98, Tryz.ntmps98
  go_wp2_with fail
  refine (tail_yes s 1 w hs (by omega) a2).mono ?_
  rintro e w' ⟨rfl, rfl⟩
  go_wp2_with fail
  refine (tail_yes s 2 w hs (by omega) a3).mono ?_
  rintro e w' ⟨rfl, rfl⟩
  go_wp2_with fail
  go_quiet (fail)
  rw [HC.out]
  go_wp2_with fail
  refine (is_no c _ g1).mono ?_
  rintro e w' ⟨rfl, rfl⟩
  go_wp2_with fail
  go_ret2
  exact ⟨rfl, below_drewN (Below.refl _ _) _⟩

set_option maxRecDepth 100000 in
set_option maxHeartbeats 800000 in
theorem ptD3 (s : ByteArray) (w : World) (hs : s.size ≤ 1000000000) (hn : 2 < s.size) (a0 : 224 ≤ (s[0].toNat : Int)) (a1 : (s[0].toNat : Int) < 240) (a2 : tlN s.size 1 (bAt s.data.toList 1)) (a3 : tlN s.size 2 (bAt s.data.toList 2)) (c : Nat) (hc : (((s[0].toNat : Int) - (224 : Int)) * (64 : Int) + (s[1].toNat : Int) - (128 : Int)) * (64 : Int) + (s[2].toNat : Int) - (128 : Int) = (c : Int)) (g0 : (c : Int) < 2048) :
    Calls Tryz.prog 98 #[.string s] w (PtPost w 0 0) := by
  have z0 : 0 < s.size := by omega
  have l0 : (s[0].toNat : Int) < 256 := by have := s[0].toNat_lt; omega
  have y0 : (0 : Int) < s.size := by omega
  have l1 : (s[1].toNat : Int) < 256 := by have := s[1].toNat_lt; omega
  have y1 : (1 : Int) < s.size := by omega
  have l2 : (s[2].toNat : Int) < 256 := by have := s[2].toNat_lt; omega
  have y2 : (2 : Int) < s.size := by omega
  have w0 : IntKind.i64.wrap ((s[0].toNat : Int) - (224 : Int)) = (s[0].toNat : Int) - (224 : Int) := IntWalk.i64_in _ (by omega)
  have w1 : IntKind.i64.wrap (((s[0].toNat : Int) - (224 : Int)) * (64 : Int)) = ((s[0].toNat : Int) - (224 : Int)) * (64 : Int) := IntWalk.i64_in _ (by omega)
  have w2 : IntKind.i64.wrap (((s[0].toNat : Int) - (224 : Int)) * (64 : Int) + (s[1].toNat : Int)) = ((s[0].toNat : Int) - (224 : Int)) * (64 : Int) + (s[1].toNat : Int) := IntWalk.i64_in _ (by omega)
  have w3 : IntKind.i64.wrap (((s[0].toNat : Int) - (224 : Int)) * (64 : Int) + (s[1].toNat : Int) - (128 : Int)) = ((s[0].toNat : Int) - (224 : Int)) * (64 : Int) + (s[1].toNat : Int) - (128 : Int) := IntWalk.i64_in _ (by omega)
  have w4 : IntKind.i64.wrap ((((s[0].toNat : Int) - (224 : Int)) * (64 : Int) + (s[1].toNat : Int) - (128 : Int)) * (64 : Int)) = (((s[0].toNat : Int) - (224 : Int)) * (64 : Int) + (s[1].toNat : Int) - (128 : Int)) * (64 : Int) := IntWalk.i64_in _ (by omega)
  have w5 : IntKind.i64.wrap ((((s[0].toNat : Int) - (224 : Int)) * (64 : Int) + (s[1].toNat : Int) - (128 : Int)) * (64 : Int) + (s[2].toNat : Int)) = (((s[0].toNat : Int) - (224 : Int)) * (64 : Int) + (s[1].toNat : Int) - (128 : Int)) * (64 : Int) + (s[2].toNat : Int) := IntWalk.i64_in _ (by omega)
  have w6 : IntKind.i64.wrap ((((s[0].toNat : Int) - (224 : Int)) * (64 : Int) + (s[1].toNat : Int) - (128 : Int)) * (64 : Int) + (s[2].toNat : Int) - (128 : Int)) = (((s[0].toNat : Int) - (224 : Int)) * (64 : Int) + (s[1].toNat : Int) - (128 : Int)) * (64 : Int) + (s[2].toNat : Int) - (128 : Int) := IntWalk.i64_in _ (by omega)
  have HC := Lib.hid hc
  clear hc
  have d0 : decide ((s[0].toNat : Int) < (128 : Int)) = false := decide_eq_false (by omega)
  have d1 : decide ((194 : Int) ≤ (s[0].toNat : Int)) = true := decide_eq_true (by omega)
  have d2 : decide ((s[0].toNat : Int) < (224 : Int)) = false := decide_eq_false (by omega)
  have d3 : decide ((224 : Int) ≤ (s[0].toNat : Int)) = true := decide_eq_true (by omega)
  have d4 : decide ((s[0].toNat : Int) < (240 : Int)) = true := decide_eq_true (by omega)
  have d5 : decide ((240 : Int) ≤ (s[0].toNat : Int)) = false := decide_eq_false (by omega)
  have d6 : decide ((s[0].toNat : Int) < (245 : Int)) = true := decide_eq_true (by omega)
  have d7 : decide ((2048 : Int) ≤ (c : Int)) = false := decide_eq_false (by omega)
  clear g0
  clear a0 a1
  go_enter Tryz.func98, Tryz.ntmps98
  go_wp2_with fail
  refine (tail_yes s 1 w hs (by omega) a2).mono ?_
  rintro e w' ⟨rfl, rfl⟩
  go_wp2_with fail
  refine (tail_yes s 2 w hs (by omega) a3).mono ?_
  rintro e w' ⟨rfl, rfl⟩
  go_wp2_with fail
  go_quiet (fail)
  rw [HC.out]
  go_wp2_with fail
  go_ret2
  exact ⟨rfl, below_drewN (Below.refl _ _) _⟩

set_option maxRecDepth 100000 in
set_option maxHeartbeats 800000 in
theorem ptD4 (s : ByteArray) (w : World) (hs : s.size ≤ 1000000000) (hn : 1 < s.size) (a0 : 224 ≤ (s[0].toNat : Int)) (a1 : (s[0].toNat : Int) < 240) (a2 : tlN s.size 1 (bAt s.data.toList 1)) (a3 : ¬ tlN s.size 2 (bAt s.data.toList 2)) :
    Calls Tryz.prog 98 #[.string s] w (PtPost w 0 0) := by
  have z0 : 0 < s.size := by omega
  have l0 : (s[0].toNat : Int) < 256 := by have := s[0].toNat_lt; omega
  have y0 : (0 : Int) < s.size := by omega
  have l1 : (s[1].toNat : Int) < 256 := by have := s[1].toNat_lt; omega
  have y1 : (1 : Int) < s.size := by omega
  have d0 : decide ((s[0].toNat : Int) < (128 : Int)) = false := decide_eq_false (by omega)
  have d1 : decide ((194 : Int) ≤ (s[0].toNat : Int)) = true := decide_eq_true (by omega)
  have d2 : decide ((s[0].toNat : Int) < (224 : Int)) = false := decide_eq_false (by omega)
  have d3 : decide ((224 : Int) ≤ (s[0].toNat : Int)) = true := decide_eq_true (by omega)
  have d4 : decide ((s[0].toNat : Int) < (240 : Int)) = true := decide_eq_true (by omega)
  have d5 : decide ((240 : Int) ≤ (s[0].toNat : Int)) = false := decide_eq_false (by omega)
  have d6 : decide ((s[0].toNat : Int) < (245 : Int)) = true := decide_eq_true (by omega)
  clear a0 a1
  go_enter Tryz.func98, Tryz.ntmps98
  go_wp2_with fail
  refine (tail_yes s 1 w hs (by omega) a2).mono ?_
  rintro e w' ⟨rfl, rfl⟩
  go_wp2_with fail
  refine (tail_no s 2 w hs (by omega) a3).mono ?_
  rintro e w' ⟨rfl, rfl⟩
  go_wp2_with fail
  go_ret2
  exact ⟨rfl, Below.refl _ _⟩

set_option maxRecDepth 100000 in
set_option maxHeartbeats 800000 in
theorem ptD5 (s : ByteArray) (w : World) (hs : s.size ≤ 1000000000) (hn : 0 < s.size) (a0 : 224 ≤ (s[0].toNat : Int)) (a1 : (s[0].toNat : Int) < 240) (a2 : ¬ tlN s.size 1 (bAt s.data.toList 1)) :
    Calls Tryz.prog 98 #[.string s] w (PtPost w 0 0) := by
  have z0 : 0 < s.size := by omega
  have l0 : (s[0].toNat : Int) < 256 := by have := s[0].toNat_lt; omega
  have y0 : (0 : Int) < s.size := by omega
  have d0 : decide ((s[0].toNat : Int) < (128 : Int)) = false := decide_eq_false (by omega)
  have d1 : decide ((194 : Int) ≤ (s[0].toNat : Int)) = true := decide_eq_true (by omega)
  have d2 : decide ((s[0].toNat : Int) < (224 : Int)) = false := decide_eq_false (by omega)
  have d3 : decide ((224 : Int) ≤ (s[0].toNat : Int)) = true := decide_eq_true (by omega)
  have d4 : decide ((s[0].toNat : Int) < (240 : Int)) = true := decide_eq_true (by omega)
  have d5 : decide ((240 : Int) ≤ (s[0].toNat : Int)) = false := decide_eq_false (by omega)
  have d6 : decide ((s[0].toNat : Int) < (245 : Int)) = true := decide_eq_true (by omega)
  clear a0 a1
  go_enter Tryz.func98, Tryz.ntmps98
  go_wp2_with fail
  refine (tail_no s 1 w hs (by omega) a2).mono ?_
  rintro e w' ⟨rfl, rfl⟩
  go_wp2_with fail
  go_ret2
  exact ⟨rfl, Below.refl _ _⟩

set_option maxRecDepth 100000 in
set_option maxHeartbeats 800000 in
theorem ptE1 (s : ByteArray) (w : World) (hs : s.size ≤ 1000000000) (hn : 3 < s.size) (a0 : 240 ≤ (s[0].toNat : Int)) (a1 : (s[0].toNat : Int) < 245) (a2 : tlN s.size 1 (bAt s.data.toList 1)) (a3 : tlN s.size 2 (bAt s.data.toList 2)) (a4 : tlN s.size 3 (bAt s.data.toList 3)) (c : Nat) (hc : ((((s[0].toNat : Int) - (240 : Int)) * (64 : Int) + (s[1].toNat : Int) - (128 : Int)) * (64 : Int) + (s[2].toNat : Int) - (128 : Int)) * (64 : Int) + (s[3].toNat : Int) - (128 : Int) = (c : Int)) (g0 : 65536 ≤ (c : Int)) (g1 : isN c) :
    Calls Tryz.prog 98 #[.string s] w (PtPost w c 4) := by
  have z0 : 0 < s.size := by omega
  have l0 : (s[0].toNat : Int) < 256 := by have := s[0].toNat_lt; omega
  have y0 : (0 : Int) < s.size := by omega
  have l1 : (s[1].toNat : Int) < 256 := by have := s[1].toNat_lt; omega
  have y1 : (1 : Int) < s.size := by omega
  have l2 : (s[2].toNat : Int) < 256 := by have := s[2].toNat_lt; omega
  have y2 : (2 : Int) < s.size := by omega
  have l3 : (s[3].toNat : Int) < 256 := by have := s[3].toNat_lt; omega
  have y3 : (3 : Int) < s.size := by omega
  have w0 : IntKind.i64.wrap ((s[0].toNat : Int) - (240 : Int)) = (s[0].toNat : Int) - (240 : Int) := IntWalk.i64_in _ (by omega)
  have w1 : IntKind.i64.wrap (((s[0].toNat : Int) - (240 : Int)) * (64 : Int)) = ((s[0].toNat : Int) - (240 : Int)) * (64 : Int) := IntWalk.i64_in _ (by omega)
  have w2 : IntKind.i64.wrap (((s[0].toNat : Int) - (240 : Int)) * (64 : Int) + (s[1].toNat : Int)) = ((s[0].toNat : Int) - (240 : Int)) * (64 : Int) + (s[1].toNat : Int) := IntWalk.i64_in _ (by omega)
  have w3 : IntKind.i64.wrap (((s[0].toNat : Int) - (240 : Int)) * (64 : Int) + (s[1].toNat : Int) - (128 : Int)) = ((s[0].toNat : Int) - (240 : Int)) * (64 : Int) + (s[1].toNat : Int) - (128 : Int) := IntWalk.i64_in _ (by omega)
  have w4 : IntKind.i64.wrap ((((s[0].toNat : Int) - (240 : Int)) * (64 : Int) + (s[1].toNat : Int) - (128 : Int)) * (64 : Int)) = (((s[0].toNat : Int) - (240 : Int)) * (64 : Int) + (s[1].toNat : Int) - (128 : Int)) * (64 : Int) := IntWalk.i64_in _ (by omega)
  have w5 : IntKind.i64.wrap ((((s[0].toNat : Int) - (240 : Int)) * (64 : Int) + (s[1].toNat : Int) - (128 : Int)) * (64 : Int) + (s[2].toNat : Int)) = (((s[0].toNat : Int) - (240 : Int)) * (64 : Int) + (s[1].toNat : Int) - (128 : Int)) * (64 : Int) + (s[2].toNat : Int) := IntWalk.i64_in _ (by omega)
  have w6 : IntKind.i64.wrap ((((s[0].toNat : Int) - (240 : Int)) * (64 : Int) + (s[1].toNat : Int) - (128 : Int)) * (64 : Int) + (s[2].toNat : Int) - (128 : Int)) = (((s[0].toNat : Int) - (240 : Int)) * (64 : Int) + (s[1].toNat : Int) - (128 : Int)) * (64 : Int) + (s[2].toNat : Int) - (128 : Int) := IntWalk.i64_in _ (by omega)
  have w7 : IntKind.i64.wrap (((((s[0].toNat : Int) - (240 : Int)) * (64 : Int) + (s[1].toNat : Int) - (128 : Int)) * (64 : Int) + (s[2].toNat : Int) - (128 : Int)) * (64 : Int)) = ((((s[0].toNat : Int) - (240 : Int)) * (64 : Int) + (s[1].toNat : Int) - (128 : Int)) * (64 : Int) + (s[2].toNat : Int) - (128 : Int)) * (64 : Int) := IntWalk.i64_in _ (by omega)
  have w8 : IntKind.i64.wrap (((((s[0].toNat : Int) - (240 : Int)) * (64 : Int) + (s[1].toNat : Int) - (128 : Int)) * (64 : Int) + (s[2].toNat : Int) - (128 : Int)) * (64 : Int) + (s[3].toNat : Int)) = ((((s[0].toNat : Int) - (240 : Int)) * (64 : Int) + (s[1].toNat : Int) - (128 : Int)) * (64 : Int) + (s[2].toNat : Int) - (128 : Int)) * (64 : Int) + (s[3].toNat : Int) := IntWalk.i64_in _ (by omega)
  have w9 : IntKind.i64.wrap (((((s[0].toNat : Int) - (240 : Int)) * (64 : Int) + (s[1].toNat : Int) - (128 : Int)) * (64 : Int) + (s[2].toNat : Int) - (128 : Int)) * (64 : Int) + (s[3].toNat : Int) - (128 : Int)) = ((((s[0].toNat : Int) - (240 : Int)) * (64 : Int) + (s[1].toNat : Int) - (128 : Int)) * (64 : Int) + (s[2].toNat : Int) - (128 : Int)) * (64 : Int) + (s[3].toNat : Int) - (128 : Int) := IntWalk.i64_in _ (by omega)
  have HC := Lib.hid hc
  clear hc
  have d0 : decide ((s[0].toNat : Int) < (128 : Int)) = false := decide_eq_false (by omega)
  have d1 : decide ((194 : Int) ≤ (s[0].toNat : Int)) = true := decide_eq_true (by omega)
  have d2 : decide ((s[0].toNat : Int) < (224 : Int)) = false := decide_eq_false (by omega)
  have d3 : decide ((224 : Int) ≤ (s[0].toNat : Int)) = true := decide_eq_true (by omega)
  have d4 : decide ((s[0].toNat : Int) < (240 : Int)) = false := decide_eq_false (by omega)
  have d5 : decide ((240 : Int) ≤ (s[0].toNat : Int)) = true := decide_eq_true (by omega)
  have d6 : decide ((s[0].toNat : Int) < (245 : Int)) = true := decide_eq_true (by omega)
  have d7 : decide ((65536 : Int) ≤ (c : Int)) = true := decide_eq_true (by omega)
  clear g0
  clear a0 a1
  go_enter Tryz.func98, Tryz.ntmps98
  go_wp2_with fail
  refine (tail_yes s 1 w hs (by omega) a2).mono ?_
  rintro e w' ⟨rfl, rfl⟩
  go_wp2_with fail
  refine (tail_yes s 2 w hs (by omega) a3).mono ?_
  rintro e w' ⟨rfl, rfl⟩
  go_wp2_with fail
  refine (tail_yes s 3 w hs (by omega) a4).mono ?_
  rintro e w' ⟨rfl, rfl⟩
  go_wp2_with fail
  go_quiet (fail)
  rw [HC.out]
  go_wp2_with fail
  refine (is_yes c _ g1).mono ?_
  rintro e w' ⟨rfl, rfl⟩
  go_wp2_with fail
  go_ret2
  exact ⟨rfl, below_drewN (Below.refl _ _) _⟩

set_option maxRecDepth 100000 in
set_option maxHeartbeats 800000 in
theorem ptE2 (s : ByteArray) (w : World) (hs : s.size ≤ 1000000000) (hn : 3 < s.size) (a0 : 240 ≤ (s[0].toNat : Int)) (a1 : (s[0].toNat : Int) < 245) (a2 : tlN s.size 1 (bAt s.data.toList 1)) (a3 : tlN s.size 2 (bAt s.data.toList 2)) (a4 : tlN s.size 3 (bAt s.data.toList 3)) (c : Nat) (hc : ((((s[0].toNat : Int) - (240 : Int)) * (64 : Int) + (s[1].toNat : Int) - (128 : Int)) * (64 : Int) + (s[2].toNat : Int) - (128 : Int)) * (64 : Int) + (s[3].toNat : Int) - (128 : Int) = (c : Int)) (g0 : 65536 ≤ (c : Int)) (g1 : ¬ isN c) :
    Calls Tryz.prog 98 #[.string s] w (PtPost w 0 0) := by
  have z0 : 0 < s.size := by omega
  have l0 : (s[0].toNat : Int) < 256 := by have := s[0].toNat_lt; omega
  have y0 : (0 : Int) < s.size := by omega
  have l1 : (s[1].toNat : Int) < 256 := by have := s[1].toNat_lt; omega
  have y1 : (1 : Int) < s.size := by omega
  have l2 : (s[2].toNat : Int) < 256 := by have := s[2].toNat_lt; omega
  have y2 : (2 : Int) < s.size := by omega
  have l3 : (s[3].toNat : Int) < 256 := by have := s[3].toNat_lt; omega
  have y3 : (3 : Int) < s.size := by omega
  have w0 : IntKind.i64.wrap ((s[0].toNat : Int) - (240 : Int)) = (s[0].toNat : Int) - (240 : Int) := IntWalk.i64_in _ (by omega)
  have w1 : IntKind.i64.wrap (((s[0].toNat : Int) - (240 : Int)) * (64 : Int)) = ((s[0].toNat : Int) - (240 : Int)) * (64 : Int) := IntWalk.i64_in _ (by omega)
  have w2 : IntKind.i64.wrap (((s[0].toNat : Int) - (240 : Int)) * (64 : Int) + (s[1].toNat : Int)) = ((s[0].toNat : Int) - (240 : Int)) * (64 : Int) + (s[1].toNat : Int) := IntWalk.i64_in _ (by omega)
  have w3 : IntKind.i64.wrap (((s[0].toNat : Int) - (240 : Int)) * (64 : Int) + (s[1].toNat : Int) - (128 : Int)) = ((s[0].toNat : Int) - (240 : Int)) * (64 : Int) + (s[1].toNat : Int) - (128 : Int) := IntWalk.i64_in _ (by omega)
  have w4 : IntKind.i64.wrap ((((s[0].toNat : Int) - (240 : Int)) * (64 : Int) + (s[1].toNat : Int) - (128 : Int)) * (64 : Int)) = (((s[0].toNat : Int) - (240 : Int)) * (64 : Int) + (s[1].toNat : Int) - (128 : Int)) * (64 : Int) := IntWalk.i64_in _ (by omega)
  have w5 : IntKind.i64.wrap ((((s[0].toNat : Int) - (240 : Int)) * (64 : Int) + (s[1].toNat : Int) - (128 : Int)) * (64 : Int) + (s[2].toNat : Int)) = (((s[0].toNat : Int) - (240 : Int)) * (64 : Int) + (s[1].toNat : Int) - (128 : Int)) * (64 : Int) + (s[2].toNat : Int) := IntWalk.i64_in _ (by omega)
  have w6 : IntKind.i64.wrap ((((s[0].toNat : Int) - (240 : Int)) * (64 : Int) + (s[1].toNat : Int) - (128 : Int)) * (64 : Int) + (s[2].toNat : Int) - (128 : Int)) = (((s[0].toNat : Int) - (240 : Int)) * (64 : Int) + (s[1].toNat : Int) - (128 : Int)) * (64 : Int) + (s[2].toNat : Int) - (128 : Int) := IntWalk.i64_in _ (by omega)
  have w7 : IntKind.i64.wrap (((((s[0].toNat : Int) - (240 : Int)) * (64 : Int) + (s[1].toNat : Int) - (128 : Int)) * (64 : Int) + (s[2].toNat : Int) - (128 : Int)) * (64 : Int)) = ((((s[0].toNat : Int) - (240 : Int)) * (64 : Int) + (s[1].toNat : Int) - (128 : Int)) * (64 : Int) + (s[2].toNat : Int) - (128 : Int)) * (64 : Int) := IntWalk.i64_in _ (by omega)
  have w8 : IntKind.i64.wrap (((((s[0].toNat : Int) - (240 : Int)) * (64 : Int) + (s[1].toNat : Int) - (128 : Int)) * (64 : Int) + (s[2].toNat : Int) - (128 : Int)) * (64 : Int) + (s[3].toNat : Int)) = ((((s[0].toNat : Int) - (240 : Int)) * (64 : Int) + (s[1].toNat : Int) - (128 : Int)) * (64 : Int) + (s[2].toNat : Int) - (128 : Int)) * (64 : Int) + (s[3].toNat : Int) := IntWalk.i64_in _ (by omega)
  have w9 : IntKind.i64.wrap (((((s[0].toNat : Int) - (240 : Int)) * (64 : Int) + (s[1].toNat : Int) - (128 : Int)) * (64 : Int) + (s[2].toNat : Int) - (128 : Int)) * (64 : Int) + (s[3].toNat : Int) - (128 : Int)) = ((((s[0].toNat : Int) - (240 : Int)) * (64 : Int) + (s[1].toNat : Int) - (128 : Int)) * (64 : Int) + (s[2].toNat : Int) - (128 : Int)) * (64 : Int) + (s[3].toNat : Int) - (128 : Int) := IntWalk.i64_in _ (by omega)
  have HC := Lib.hid hc
  clear hc
  have d0 : decide ((s[0].toNat : Int) < (128 : Int)) = false := decide_eq_false (by omega)
  have d1 : decide ((194 : Int) ≤ (s[0].toNat : Int)) = true := decide_eq_true (by omega)
  have d2 : decide ((s[0].toNat : Int) < (224 : Int)) = false := decide_eq_false (by omega)
  have d3 : decide ((224 : Int) ≤ (s[0].toNat : Int)) = true := decide_eq_true (by omega)
  have d4 : decide ((s[0].toNat : Int) < (240 : Int)) = false := decide_eq_false (by omega)
  have d5 : decide ((240 : Int) ≤ (s[0].toNat : Int)) = true := decide_eq_true (by omega)
  have d6 : decide ((s[0].toNat : Int) < (245 : Int)) = true := decide_eq_true (by omega)
  have d7 : decide ((65536 : Int) ≤ (c : Int)) = true := decide_eq_true (by omega)
  clear g0
  clear a0 a1
  go_enter Tryz.func98, Tryz.ntmps98
  go_wp2_with fail
  refine (tail_yes s 1 w hs (by omega) a2).mono ?_
  rintro e w' ⟨rfl, rfl⟩
  go_wp2_with fail
  refine (tail_yes s 2 w hs (by omega) a3).mono ?_
  rintro e w' ⟨rfl, rfl⟩
  go_wp2_with fail
  refine (tail_yes s 3 w hs (by omega) a4).mono ?_
  rintro e w' ⟨rfl, rfl⟩
  go_wp2_with fail
  go_quiet (fail)
  rw [HC.out]
  go_wp2_with fail
  refine (is_no c _ g1).mono ?_
  rintro e w' ⟨rfl, rfl⟩
  go_wp2_with fail
  go_ret2
  exact ⟨rfl, below_drewN (Below.refl _ _) _⟩

set_option maxRecDepth 100000 in
set_option maxHeartbeats 800000 in
theorem ptE3 (s : ByteArray) (w : World) (hs : s.size ≤ 1000000000) (hn : 3 < s.size) (a0 : 240 ≤ (s[0].toNat : Int)) (a1 : (s[0].toNat : Int) < 245) (a2 : tlN s.size 1 (bAt s.data.toList 1)) (a3 : tlN s.size 2 (bAt s.data.toList 2)) (a4 : tlN s.size 3 (bAt s.data.toList 3)) (c : Nat) (hc : ((((s[0].toNat : Int) - (240 : Int)) * (64 : Int) + (s[1].toNat : Int) - (128 : Int)) * (64 : Int) + (s[2].toNat : Int) - (128 : Int)) * (64 : Int) + (s[3].toNat : Int) - (128 : Int) = (c : Int)) (g0 : (c : Int) < 65536) :
    Calls Tryz.prog 98 #[.string s] w (PtPost w 0 0) := by
  have z0 : 0 < s.size := by omega
  have l0 : (s[0].toNat : Int) < 256 := by have := s[0].toNat_lt; omega
  have y0 : (0 : Int) < s.size := by omega
  have l1 : (s[1].toNat : Int) < 256 := by have := s[1].toNat_lt; omega
  have y1 : (1 : Int) < s.size := by omega
  have l2 : (s[2].toNat : Int) < 256 := by have := s[2].toNat_lt; omega
  have y2 : (2 : Int) < s.size := by omega
  have l3 : (s[3].toNat : Int) < 256 := by have := s[3].toNat_lt; omega
  have y3 : (3 : Int) < s.size := by omega
  have w0 : IntKind.i64.wrap ((s[0].toNat : Int) - (240 : Int)) = (s[0].toNat : Int) - (240 : Int) := IntWalk.i64_in _ (by omega)
  have w1 : IntKind.i64.wrap (((s[0].toNat : Int) - (240 : Int)) * (64 : Int)) = ((s[0].toNat : Int) - (240 : Int)) * (64 : Int) := IntWalk.i64_in _ (by omega)
  have w2 : IntKind.i64.wrap (((s[0].toNat : Int) - (240 : Int)) * (64 : Int) + (s[1].toNat : Int)) = ((s[0].toNat : Int) - (240 : Int)) * (64 : Int) + (s[1].toNat : Int) := IntWalk.i64_in _ (by omega)
  have w3 : IntKind.i64.wrap (((s[0].toNat : Int) - (240 : Int)) * (64 : Int) + (s[1].toNat : Int) - (128 : Int)) = ((s[0].toNat : Int) - (240 : Int)) * (64 : Int) + (s[1].toNat : Int) - (128 : Int) := IntWalk.i64_in _ (by omega)
  have w4 : IntKind.i64.wrap ((((s[0].toNat : Int) - (240 : Int)) * (64 : Int) + (s[1].toNat : Int) - (128 : Int)) * (64 : Int)) = (((s[0].toNat : Int) - (240 : Int)) * (64 : Int) + (s[1].toNat : Int) - (128 : Int)) * (64 : Int) := IntWalk.i64_in _ (by omega)
  have w5 : IntKind.i64.wrap ((((s[0].toNat : Int) - (240 : Int)) * (64 : Int) + (s[1].toNat : Int) - (128 : Int)) * (64 : Int) + (s[2].toNat : Int)) = (((s[0].toNat : Int) - (240 : Int)) * (64 : Int) + (s[1].toNat : Int) - (128 : Int)) * (64 : Int) + (s[2].toNat : Int) := IntWalk.i64_in _ (by omega)
  have w6 : IntKind.i64.wrap ((((s[0].toNat : Int) - (240 : Int)) * (64 : Int) + (s[1].toNat : Int) - (128 : Int)) * (64 : Int) + (s[2].toNat : Int) - (128 : Int)) = (((s[0].toNat : Int) - (240 : Int)) * (64 : Int) + (s[1].toNat : Int) - (128 : Int)) * (64 : Int) + (s[2].toNat : Int) - (128 : Int) := IntWalk.i64_in _ (by omega)
  have w7 : IntKind.i64.wrap (((((s[0].toNat : Int) - (240 : Int)) * (64 : Int) + (s[1].toNat : Int) - (128 : Int)) * (64 : Int) + (s[2].toNat : Int) - (128 : Int)) * (64 : Int)) = ((((s[0].toNat : Int) - (240 : Int)) * (64 : Int) + (s[1].toNat : Int) - (128 : Int)) * (64 : Int) + (s[2].toNat : Int) - (128 : Int)) * (64 : Int) := IntWalk.i64_in _ (by omega)
  have w8 : IntKind.i64.wrap (((((s[0].toNat : Int) - (240 : Int)) * (64 : Int) + (s[1].toNat : Int) - (128 : Int)) * (64 : Int) + (s[2].toNat : Int) - (128 : Int)) * (64 : Int) + (s[3].toNat : Int)) = ((((s[0].toNat : Int) - (240 : Int)) * (64 : Int) + (s[1].toNat : Int) - (128 : Int)) * (64 : Int) + (s[2].toNat : Int) - (128 : Int)) * (64 : Int) + (s[3].toNat : Int) := IntWalk.i64_in _ (by omega)
  have w9 : IntKind.i64.wrap (((((s[0].toNat : Int) - (240 : Int)) * (64 : Int) + (s[1].toNat : Int) - (128 : Int)) * (64 : Int) + (s[2].toNat : Int) - (128 : Int)) * (64 : Int) + (s[3].toNat : Int) - (128 : Int)) = ((((s[0].toNat : Int) - (240 : Int)) * (64 : Int) + (s[1].toNat : Int) - (128 : Int)) * (64 : Int) + (s[2].toNat : Int) - (128 : Int)) * (64 : Int) + (s[3].toNat : Int) - (128 : Int) := IntWalk.i64_in _ (by omega)
  have HC := Lib.hid hc
  clear hc
  have d0 : decide ((s[0].toNat : Int) < (128 : Int)) = false := decide_eq_false (by omega)
  have d1 : decide ((194 : Int) ≤ (s[0].toNat : Int)) = true := decide_eq_true (by omega)
  have d2 : decide ((s[0].toNat : Int) < (224 : Int)) = false := decide_eq_false (by omega)
  have d3 : decide ((224 : Int) ≤ (s[0].toNat : Int)) = true := decide_eq_true (by omega)
  have d4 : decide ((s[0].toNat : Int) < (240 : Int)) = false := decide_eq_false (by omega)
  have d5 : decide ((240 : Int) ≤ (s[0].toNat : Int)) = true := decide_eq_true (by omega)
  have d6 : decide ((s[0].toNat : Int) < (245 : Int)) = true := decide_eq_true (by omega)
  have d7 : decide ((65536 : Int) ≤ (c : Int)) = false := decide_eq_false (by omega)
  clear g0
  clear a0 a1
  go_enter Tryz.func98, Tryz.ntmps98
  go_wp2_with fail
  refine (tail_yes s 1 w hs (by omega) a2).mono ?_
  rintro e w' ⟨rfl, rfl⟩
  go_wp2_with fail
  refine (tail_yes s 2 w hs (by omega) a3).mono ?_
  rintro e w' ⟨rfl, rfl⟩
  go_wp2_with fail
  refine (tail_yes s 3 w hs (by omega) a4).mono ?_
  rintro e w' ⟨rfl, rfl⟩
  go_wp2_with fail
  go_quiet (fail)
  rw [HC.out]
  go_wp2_with fail
  go_ret2
  exact ⟨rfl, below_drewN (Below.refl _ _) _⟩

set_option maxRecDepth 100000 in
set_option maxHeartbeats 800000 in
theorem ptE4 (s : ByteArray) (w : World) (hs : s.size ≤ 1000000000) (hn : 2 < s.size) (a0 : 240 ≤ (s[0].toNat : Int)) (a1 : (s[0].toNat : Int) < 245) (a2 : tlN s.size 1 (bAt s.data.toList 1)) (a3 : tlN s.size 2 (bAt s.data.toList 2)) (a4 : ¬ tlN s.size 3 (bAt s.data.toList 3)) :
    Calls Tryz.prog 98 #[.string s] w (PtPost w 0 0) := by
  have z0 : 0 < s.size := by omega
  have l0 : (s[0].toNat : Int) < 256 := by have := s[0].toNat_lt; omega
  have y0 : (0 : Int) < s.size := by omega
  have l1 : (s[1].toNat : Int) < 256 := by have := s[1].toNat_lt; omega
  have y1 : (1 : Int) < s.size := by omega
  have l2 : (s[2].toNat : Int) < 256 := by have := s[2].toNat_lt; omega
  have y2 : (2 : Int) < s.size := by omega
  have d0 : decide ((s[0].toNat : Int) < (128 : Int)) = false := decide_eq_false (by omega)
  have d1 : decide ((194 : Int) ≤ (s[0].toNat : Int)) = true := decide_eq_true (by omega)
  have d2 : decide ((s[0].toNat : Int) < (224 : Int)) = false := decide_eq_false (by omega)
  have d3 : decide ((224 : Int) ≤ (s[0].toNat : Int)) = true := decide_eq_true (by omega)
  have d4 : decide ((s[0].toNat : Int) < (240 : Int)) = false := decide_eq_false (by omega)
  have d5 : decide ((240 : Int) ≤ (s[0].toNat : Int)) = true := decide_eq_true (by omega)
  have d6 : decide ((s[0].toNat : Int) < (245 : Int)) = true := decide_eq_true (by omega)
  clear a0 a1
  go_enter Tryz.func98, Tryz.ntmps98
  go_wp2_with fail
  refine (tail_yes s 1 w hs (by omega) a2).mono ?_
  rintro e w' ⟨rfl, rfl⟩
  go_wp2_with fail
  refine (tail_yes s 2 w hs (by omega) a3).mono ?_
  rintro e w' ⟨rfl, rfl⟩
  go_wp2_with fail
  refine (tail_no s 3 w hs (by omega) a4).mono ?_
  rintro e w' ⟨rfl, rfl⟩
  go_wp2_with fail
  go_ret2
  exact ⟨rfl, Below.refl _ _⟩

set_option maxRecDepth 100000 in
set_option maxHeartbeats 800000 in
theorem ptE5 (s : ByteArray) (w : World) (hs : s.size ≤ 1000000000) (hn : 1 < s.size) (a0 : 240 ≤ (s[0].toNat : Int)) (a1 : (s[0].toNat : Int) < 245) (a2 : tlN s.size 1 (bAt s.data.toList 1)) (a3 : ¬ tlN s.size 2 (bAt s.data.toList 2)) :
    Calls Tryz.prog 98 #[.string s] w (PtPost w 0 0) := by
  have z0 : 0 < s.size := by omega
  have l0 : (s[0].toNat : Int) < 256 := by have := s[0].toNat_lt; omega
  have y0 : (0 : Int) < s.size := by omega
  have l1 : (s[1].toNat : Int) < 256 := by have := s[1].toNat_lt; omega
  have y1 : (1 : Int) < s.size := by omega
  have d0 : decide ((s[0].toNat : Int) < (128 : Int)) = false := decide_eq_false (by omega)
  have d1 : decide ((194 : Int) ≤ (s[0].toNat : Int)) = true := decide_eq_true (by omega)
  have d2 : decide ((s[0].toNat : Int) < (224 : Int)) = false := decide_eq_false (by omega)
  have d3 : decide ((224 : Int) ≤ (s[0].toNat : Int)) = true := decide_eq_true (by omega)
  have d4 : decide ((s[0].toNat : Int) < (240 : Int)) = false := decide_eq_false (by omega)
  have d5 : decide ((240 : Int) ≤ (s[0].toNat : Int)) = true := decide_eq_true (by omega)
  have d6 : decide ((s[0].toNat : Int) < (245 : Int)) = true := decide_eq_true (by omega)
  clear a0 a1
  go_enter Tryz.func98, Tryz.ntmps98
  go_wp2_with fail
  refine (tail_yes s 1 w hs (by omega) a2).mono ?_
  rintro e w' ⟨rfl, rfl⟩
  go_wp2_with fail
  refine (tail_no s 2 w hs (by omega) a3).mono ?_
  rintro e w' ⟨rfl, rfl⟩
  go_wp2_with fail
  go_ret2
  exact ⟨rfl, Below.refl _ _⟩

set_option maxRecDepth 100000 in
set_option maxHeartbeats 800000 in
theorem ptE6 (s : ByteArray) (w : World) (hs : s.size ≤ 1000000000) (hn : 0 < s.size) (a0 : 240 ≤ (s[0].toNat : Int)) (a1 : (s[0].toNat : Int) < 245) (a2 : ¬ tlN s.size 1 (bAt s.data.toList 1)) :
    Calls Tryz.prog 98 #[.string s] w (PtPost w 0 0) := by
  have z0 : 0 < s.size := by omega
  have l0 : (s[0].toNat : Int) < 256 := by have := s[0].toNat_lt; omega
  have y0 : (0 : Int) < s.size := by omega
  have d0 : decide ((s[0].toNat : Int) < (128 : Int)) = false := decide_eq_false (by omega)
  have d1 : decide ((194 : Int) ≤ (s[0].toNat : Int)) = true := decide_eq_true (by omega)
  have d2 : decide ((s[0].toNat : Int) < (224 : Int)) = false := decide_eq_false (by omega)
  have d3 : decide ((224 : Int) ≤ (s[0].toNat : Int)) = true := decide_eq_true (by omega)
  have d4 : decide ((s[0].toNat : Int) < (240 : Int)) = false := decide_eq_false (by omega)
  have d5 : decide ((240 : Int) ≤ (s[0].toNat : Int)) = true := decide_eq_true (by omega)
  have d6 : decide ((s[0].toNat : Int) < (245 : Int)) = true := decide_eq_true (by omega)
  clear a0 a1
  go_enter Tryz.func98, Tryz.ntmps98
  go_wp2_with fail
  refine (tail_no s 1 w hs (by omega) a2).mono ?_
  rintro e w' ⟨rfl, rfl⟩
  go_wp2_with fail
  go_ret2
  exact ⟨rfl, Below.refl _ _⟩

set_option maxRecDepth 100000 in
set_option maxHeartbeats 800000 in
theorem ptF (s : ByteArray) (w : World) (hs : s.size ≤ 1000000000) (hn : 0 < s.size) (a0 : 245 ≤ (s[0].toNat : Int)) :
    Calls Tryz.prog 98 #[.string s] w (PtPost w 0 0) := by
  have z0 : 0 < s.size := by omega
  have l0 : (s[0].toNat : Int) < 256 := by have := s[0].toNat_lt; omega
  have y0 : (0 : Int) < s.size := by omega
  have d0 : decide ((s[0].toNat : Int) < (128 : Int)) = false := decide_eq_false (by omega)
  have d1 : decide ((194 : Int) ≤ (s[0].toNat : Int)) = true := decide_eq_true (by omega)
  have d2 : decide ((s[0].toNat : Int) < (224 : Int)) = false := decide_eq_false (by omega)
  have d3 : decide ((224 : Int) ≤ (s[0].toNat : Int)) = true := decide_eq_true (by omega)
  have d4 : decide ((s[0].toNat : Int) < (240 : Int)) = false := decide_eq_false (by omega)
  have d5 : decide ((240 : Int) ≤ (s[0].toNat : Int)) = true := decide_eq_true (by omega)
  have d6 : decide ((s[0].toNat : Int) < (245 : Int)) = false := decide_eq_false (by omega)
  clear a0
  go_enter Tryz.func98, Tryz.ntmps98
  go_wp2_with fail
  go_ret2
  exact ⟨rfl, Below.refl _ _⟩

end Go.Proofs.YtafdebkamnmheaaGreatDoor
