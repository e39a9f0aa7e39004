import Derived.Test.YtcfdalmllegefaaGreatDoorZ04
import Derived.Test.YtcfdalmllegefaaGreatDoorKrB
import Derived.Test.YtcfdalmllegefaaGreatDoorZ01
import Derived.Lib.IndexBytes
/- Package copyistref01: point: the first character of a string and its length, as ptL says. -/
namespace Go.Proofs.YtcfdalmllegefaaGreatDoor
open Go.RowKit
set_option linter.unusedVariables false
set_option linter.unusedSimpArgs false
def PtPost (w : World) (c n : Nat) (e : Ending) (w' : World) : Prop := e = .returned (.tuple #[.int .i64 c, .int .i64 n]) ∧ Below w.heap.size w w'

theorem below_drewN {B : Nat} {a w : World} (h : Below B a w) (n : Nat) : Below B a (w.drewN n) := ⟨h.os, h.tape, h.output, h.size, h.block⟩

set_option maxRecDepth 100000 in
set_option maxHeartbeats 800000 in
theorem ptA (s : ByteArray) (w : World) (hs : s.size ≤ 1000000000) (hn : 0 < s.size) (a0 : (s[0].toNat : Int) < 128) :
    Calls Tryz.prog 170 #[.string s] w (PtPost w s[0].toNat 1) := by
  have z0 : 0 < s.size := by omega
  have l0 : (s[0].toNat : Int) < 256 := by have := s[0].toNat_lt; omega
  have y0 : (0 : Int) < s.size := by omega
  have d0 : decide ((s[0].toNat : Int) < (128 : Int)) = true := decide_eq_true (by omega)
  have d1 : decide ((194 : Int) ≤ (s[0].toNat : Int)) = false := decide_eq_false (by omega)
  have d2 : decide ((s[0].toNat : Int) < (224 : Int)) = true := decide_eq_true (by omega)
  have d3 : decide ((224 : Int) ≤ (s[0].toNat : Int)) = false := decide_eq_false (by omega)
  have d4 : decide ((s[0].toNat : Int) < (240 : Int)) = true := decide_eq_true (by omega)
  have d5 : decide ((240 : Int) ≤ (s[0].toNat : Int)) = false := decide_eq_false (by omega)
  have d6 : decide ((s[0].toNat : Int) < (245 : Int)) = true := decide_eq_true (by omega)
  clear a0
  go_enter Tryz.func170, Tryz.ntmps170
  go_wp2_with fail
  go_ret2
  exact ⟨rfl, Below.refl _ _⟩

set_option maxRecDepth 100000 in
set_option maxHeartbeats 800000 in
theorem ptB1 (s : ByteArray) (w : World) (hs : s.size ≤ 1000000000) (hn : 1 < s.size) (a0 : 194 ≤ (s[0].toNat : Int)) (a1 : (s[0].toNat : Int) < 224) (a2 : tlN s.size 1 (bAt s.data.toList 1)) (c : Nat) (hc : ((s[0].toNat : Int) - (192 : Int)) * (64 : Int) + (s[1].toNat : Int) - (128 : Int) = (c : Int)) :
    Calls Tryz.prog 170 #[.string s] w (PtPost w c 2) := by
  have z0 : 0 < s.size := by omega
  have l0 : (s[0].toNat : Int) < 256 := by have := s[0].toNat_lt; omega
  have y0 : (0 : Int) < s.size := by omega
  have l1 : (s[1].toNat : Int) < 256 := by have := s[1].toNat_lt; omega
  have y1 : (1 : Int) < s.size := by omega
  have w0 : IntKind.i64.wrap ((s[0].toNat : Int) - (192 : Int)) = (s[0].toNat : Int) - (192 : Int) := IntWalk.i64_in _ (by omega)
  have w1 : IntKind.i64.wrap (((s[0].toNat : Int) - (192 : Int)) * (64 : Int)) = ((s[0].toNat : Int) - (192 : Int)) * (64 : Int) := IntWalk.i64_in _ (by omega)
  have w2 : IntKind.i64.wrap (((s[0].toNat : Int) - (192 : Int)) * (64 : Int) + (s[1].toNat : Int)) = ((s[0].toNat : Int) - (192 : Int)) * (64 : Int) + (s[1].toNat : Int) := IntWalk.i64_in _ (by omega)
  have w3 : IntKind.i64.wrap (((s[0].toNat : Int) - (192 : Int)) * (64 : Int) + (s[1].toNat : Int) - (128 : Int)) = ((s[0].toNat : Int) - (192 : Int)) * (64 : Int) + (s[1].toNat : Int) - (128 : Int) := IntWalk.i64_in _ (by omega)
  have HC := Lib.hid hc
  clear hc
  have d0 : decide ((s[0].toNat : Int) < (128 : Int)) = false := decide_eq_false (by omega)
  have d1 : decide ((194 : Int) ≤ (s[0].toNat : Int)) = true := decide_eq_true (by omega)
  have d2 : decide ((s[0].toNat : Int) < (224 : Int)) = true := decide_eq_true (by omega)
  have d3 : decide ((224 : Int) ≤ (s[0].toNat : Int)) = false := decide_eq_false (by omega)
  have d4 : decide ((s[0].toNat : Int) < (240 : Int)) = true := decide_eq_true (by omega)
  have d5 : decide ((240 : Int) ≤ (s[0].toNat : Int)) = false := decide_eq_false (by omega)
  have d6 : decide ((s[0].toNat : Int) < (245 : Int)) = true := decide_eq_true (by omega)
  clear a0 a1
  go_enter Tryz.func170, Tryz.ntmps170
  go_wp2_with fail
  refine (tail_yes s 1 w hs (by omega) a2).mono ?_
  rintro e w' ⟨rfl, rfl⟩
  go_wp2_with fail
  rw [HC.out]
  go_ret2
  exact ⟨rfl, Below.refl _ _⟩

set_option maxRecDepth 100000 in
set_option maxHeartbeats 800000 in
theorem ptB2 (s : ByteArray) (w : World) (hs : s.size ≤ 1000000000) (hn : 0 < s.size) (a0 : 194 ≤ (s[0].toNat : Int)) (a1 : (s[0].toNat : Int) < 224) (a2 : ¬ tlN s.size 1 (bAt s.data.toList 1)) :
    Calls Tryz.prog 170 #[.string s] w (PtPost w 0 0) := by
  have z0 : 0 < s.size := by omega
  have l0 : (s[0].toNat : Int) < 256 := by have := s[0].toNat_lt; omega
  have y0 : (0 : Int) < s.size := by omega
  have d0 : decide ((s[0].toNat : Int) < (128 : Int)) = false := decide_eq_false (by omega)
  have d1 : decide ((194 : Int) ≤ (s[0].toNat : Int)) = true := decide_eq_true (by omega)
  have d2 : decide ((s[0].toNat : Int) < (224 : Int)) = true := decide_eq_true (by omega)
  have d3 : decide ((224 : Int) ≤ (s[0].toNat : Int)) = false := decide_eq_false (by omega)
  have d4 : decide ((s[0].toNat : Int) < (240 : Int)) = true := decide_eq_true (by omega)
  have d5 : decide ((240 : Int) ≤ (s[0].toNat : Int)) = false := decide_eq_false (by omega)
  have d6 : decide ((s[0].toNat : Int) < (245 : Int)) = true := decide_eq_true (by omega)
  clear a0 a1
  go_enter Tryz.func170, Tryz.ntmps170
  go_wp2_with fail
  refine (tail_no s 1 w hs (by omega) a2).mono ?_
  rintro e w' ⟨rfl, rfl⟩
  go_wp2_with fail
  go_ret2
  exact ⟨rfl, Below.refl _ _⟩

set_option maxRecDepth 100000 in
set_option maxHeartbeats 800000 in
theorem ptC (s : ByteArray) (w : World) (hs : s.size ≤ 1000000000) (hn : 0 < s.size) (a0 : 128 ≤ (s[0].toNat : Int)) (a1 : (s[0].toNat : Int) < 194) :
    Calls Tryz.prog 170 #[.string s] w (PtPost w 0 0) := by
  have z0 : 0 < s.size := by omega
  have l0 : (s[0].toNat : Int) < 256 := by have := s[0].toNat_lt; omega
  have y0 : (0 : Int) < s.size := by omega
  have d0 : decide ((s[0].toNat : Int) < (128 : Int)) = false := decide_eq_false (by omega)
  have d1 : decide ((194 : Int) ≤ (s[0].toNat : Int)) = false := decide_eq_false (by omega)
  have d2 : decide ((s[0].toNat : Int) < (224 : Int)) = true := decide_eq_true (by omega)
  have d3 : decide ((224 : Int) ≤ (s[0].toNat : Int)) = false := decide_eq_false (by omega)
  have d4 : decide ((s[0].toNat : Int) < (240 : Int)) = true := decide_eq_true (by omega)
  have d5 : decide ((240 : Int) ≤ (s[0].toNat : Int)) = false := decide_eq_false (by omega)
  have d6 : decide ((s[0].toNat : Int) < (245 : Int)) = true := decide_eq_true (by omega)
  clear a0 a1
  go_enter Tryz.func170, Tryz.ntmps170
  go_wp2_with fail
  go_ret2
  exact ⟨rfl, Below.refl _ _⟩

set_option maxRecDepth 100000 in
set_option maxHeartbeats 800000 in
theorem ptD1 (s : ByteArray) (w : World) (hs : s.size ≤ 1000000000) (hn : 2 < s.size) (a0 : 224 ≤ (s[0].toNat : Int)) (a1 : (s[0].toNat : Int) < 240) (a2 : tlN s.size 1 (bAt s.data.toList 1)) (a3 : tlN s.size 2 (bAt s.data.toList 2)) (c : Nat) (hc : (((s[0].toNat : Int) - (224 : Int)) * (64 : Int) + (s[1].toNat : Int) - (128 : Int)) * (64 : Int) + (s[2].toNat : Int) - (128 : Int) = (c : Int)) (g0 : 2048 ≤ (c : Int)) (g1 : isN c) :
    Calls Tryz.prog 170 #[.string s] w (PtPost w c 3) := by
  have z0 : 0 < s.size := by omega
  have l0 : (s[0].toNat : Int) < 256 := by have := s[0].toNat_lt; omega
  have y0 : (0 : Int) < s.size := by omega
  have l1 : (s[1].toNat : Int) < 256 := by have := s[1].toNat_lt; omega
  have y1 : (1 : Int) < s.size := by omega
  have l2 : (s[2].toNat : Int) < 256 := by have := s[2].toNat_lt; omega
  have y2 : (2 : Int) < s.size := by omega
  have w0 : IntKind.i64.wrap ((s[0].toNat : Int) - (224 : Int)) = (s[0].toNat : Int) - (224 : Int) := IntWalk.i64_in _ (by omega)
  have w1 : IntKind.i64.wrap (((s[0].toNat : Int) - (224 : Int)) * (64 : Int)) = ((s[0].toNat : Int) - (224 : Int)) * (64 : Int) := IntWalk.i64_in _ (by omega)
  have w2 : IntKind.i64.wrap (((s[0].toNat : Int) - (224 : Int)) * (64 : Int) + (s[1].toNat : Int)) = ((s[0].toNat : Int) - (224 : Int)) * (64 : Int) + (s[1].toNat : Int) := IntWalk.i64_in _ (by omega)
  have w3 : IntKind.i64.wrap (((s[0].toNat : Int) - (224 : Int)) * (64 : Int) + (s[1].toNat : Int) - (128 : Int)) = ((s[0].toNat : Int) - (224 : Int)) * (64 : Int) + (s[1].toNat : Int) - (128 : Int) := IntWalk.i64_in _ (by omega)
  have w4 : IntKind.i64.wrap ((((s[0].toNat : Int) - (224 : Int)) * (64 : Int) + (s[1].toNat : Int) - (128 : Int)) * (64 : Int)) = (((s[0].toNat : Int) - (224 : Int)) * (64 : Int) + (s[1].toNat : Int) - (128 : Int)) * (64 : Int) := IntWalk.i64_in _ (by omega)
  have w5 : IntKind.i64.wrap ((((s[0].toNat : Int) - (224 : Int)) * (64 : Int) + (s[1].toNat : Int) - (128 : Int)) * (64 : Int) + (s[2].toNat : Int)) = (((s[0].toNat : Int) - (224 : Int)) * (64 : Int) + (s[1].toNat : Int) - (128 : Int)) * (64 : Int) + (s[2].toNat : Int) := IntWalk.i64_in _ (by omega)
  have w6 : IntKind.i64.wrap ((((s[0].toNat : Int) - (224 : Int)) * (64 : Int) + (s[1].toNat : Int) - (128 : Int)) * (64 : Int) + (s[2].toNat : Int) - (128 : Int)) = (((s[0].toNat : Int) - (224 : Int)) * (64 : Int) + (s[1].toNat : Int) - (128 : Int)) * (64 : Int) + (s[2].toNat : Int) - (128 : Int) := IntWalk.i64_in _ (by omega)
  have HC := Lib.hid hc
  clear hc
  have d0 : decide ((s[0].toNat : Int) < (128 : Int)) = false := decide_eq_false (by omega)
  have d1 : decide ((194 : Int) ≤ (s[0].toNat : Int)) = true := decide_eq_true (by omega)
  have d2 : decide ((s[0].toNat : Int) < (224 : Int)) = false := decide_eq_false (by omega)
  have d3 : decide ((224 : Int) ≤ (s[0].toNat : Int)) = true := decide_eq_true (by omega)
  have d4 : decide ((s[0].toNat : Int) < (240 : Int)) = true := decide_eq_true (by omega)
  have d5 : decide ((240 : Int) ≤ (s[0].toNat : Int)) = false := decide_eq_false (by omega)
  have d6 : decide ((s[0].toNat : Int) < (245 : Int)) = true := decide_eq_true (by omega)
  have d7 : decide ((2048 : Int) ≤ (c : Int)) = true := decide_eq_true (by omega)
  clear g0
  clear a0 a1
  go_enter Tryz.func170, Tryz.ntmps170
  go_wp2_with fail
  refine (tail_yes s 1 w hs (by omega) a2).mono ?_
  rintro e w' ⟨rfl, rfl⟩
  go_wp2_with fail
  refine (tail_yes s 2 w hs (by omega) a3).mono ?_
  rintro e w' ⟨rfl, rfl⟩
  go_wp2_with fail
  go_quiet (fail)
  rw [HC.out]
  go_wp2_with fail
  refine (is_yes c _ g1).mono ?_
  rintro e w' ⟨rfl, rfl⟩
  go_wp2_with fail
  go_ret2
  exact ⟨rfl, below_drewN (Below.refl _ _) _⟩

set_option maxRecDepth 100000 in
set_option maxHeartbeats 800000 in
theorem ptD2 (s : ByteArray) (w : World) (hs : s.size ≤ 1000000000) (hn : 2 < s.size) (a0 : 224 ≤ (s[0].toNat : Int)) (a1 : (s[0].toNat : Int) < 240) (a2 : tlN s.size 1 (bAt s.data.toList 1)) (a3 : tlN s.size 2 (bAt s.data.toList 2)) (c : Nat) (hc : (((s[0].toNat : Int) - (224 : Int)) * (64 : Int) + (s[1].toNat : Int) - (128 : Int)) * (64 : Int) + (s[2].toNat : Int) - (128 : Int) = (c : Int)) (g0 : 2048 ≤ (c : Int)) (g1 : ¬ isN c) :
    Calls Tryz.prog 170 #[.string s] w (PtPost w 0 0) := by
  have z0 : 0 < s.size := by omega
  have l0 : (s[0].toNat : Int) < 256 := by have := s[0].toNat_lt; omega
  have y0 : (0 : Int) < s.size := by omega
  have l1 : (s[1].toNat : Int) < 256 := by have := s[1].toNat_lt; omega
  have y1 : (1 : Int) < s.size := by omega
  have l2 : (s[2].toNat : Int) < 256 := by have := s[2].toNat_lt; omega
  have y2 : (2 : Int) < s.size := by omega
  have w0 : IntKind.i64.wrap ((s[0].toNat : Int) - (224 : Int)) = (s[0].toNat : Int) - (224 : Int) := IntWalk.i64_in _ (by omega)
  have w1 : IntKind.i64.wrap (((s[0].toNat : Int) - (224 : Int)) * (64 : Int)) = ((s[0].toNat : Int) - (224 : Int)) * (64 : Int) := IntWalk.i64_in _ (by omega)
  have w2 : IntKind.i64.wrap (((s[0].toNat : Int) - (224 : Int)) * (64 : Int) + (s[1].toNat : Int)) = ((s[0].toNat : Int) - (224 : Int)) * (64 : Int) + (s[1].toNat : Int) := IntWalk.i64_in _ (by omega)
  have w3 : IntKind.i64.wrap (((s[0].toNat : Int) - (224 : Int)) * (64 : Int) + (s[1].toNat : Int) - (128 : Int)) = ((s[0].toNat : Int) - (224 : Int)) * (64 : Int) + (s[1].toNat : Int) - (128 : Int) := IntWalk.i64_in _ (by omega)
  have w4 : IntKind.i64.wrap ((((s[0].toNat : Int) - (224 : Int)) * (64 : Int) + (s[1].toNat : Int) - (128 : Int)) * (64 : Int)) = (((s[0].toNat : Int) - (224 : Int)) * (64 : Int) + (s[1].toNat : Int) - (128 : Int)) * (64 : Int) := IntWalk.i64_in _ (by omega)
  have w5 : IntKind.i64.wrap ((((s[0].toNat : Int) - (224 : Int)) * (64 : Int) + (s[1].toNat : Int) - (128 : Int)) * (64 : Int) + (s[2].toNat : Int)) = (((s[0].toNat : Int) - (224 : Int)) * (64 : Int) + (s[1].toNat : Int) - (128 : Int)) * (64 : Int) + (s[2].toNat : Int) := IntWalk.i64_in _ (by omega)
  have w6 : IntKind.i64.wrap ((((s[0].toNat : Int) - (224 : Int)) * (64 : Int) + (s[1].toNat : Int) - (128 : Int)) * (64 : Int) + (s[2].toNat : Int) - (128 : Int)) = (((s[0].toNat : Int) - (224 : Int)) * (64 : Int) + (s[1].toNat : Int) - (128 : Int)) * (64 : Int) + (s[2].toNat : Int) - (128 : Int) := IntWalk.i64_in _ (by omega)
  have HC := Lib.hid hc
  clear hc
  have d0 : decide ((s[0].toNat : Int) < (128 : Int)) = false := decide_eq_false (by omega)
  have d1 : decide ((194 : Int) ≤ (s[0].toNat : Int)) = true := decide_eq_true (by omega)
  have d2 : decide ((s[0].toNat : Int) < (224 : Int)) = false := decide_eq_false (by omega)
  have d3 : decide ((224 : Int) ≤ (s[0].toNat : Int)) = true := decide_eq_true (by omega)
  have d4 : decide ((s[0].toNat : Int) < (240 : Int)) = true := decide_eq_true (by omega)
  have d5 : decide ((240 : Int) ≤ (s[0].toNat : Int)) = false := decide_eq_false (by omega)
  have d6 : decide ((s[0].toNat : Int) < (245 : Int)) = true := decide_eq_true (by omega)
  have d7 : decide ((2048 : Int) ≤ (c : Int)) = true := decide_eq_true (by omega)
  clear g0
  clear a0 a1
  go_enter Tryz.func170, Tryz.ntmps170
  go_wp2_with fail
  refine (tail_yes s 1 w hs (by omega) a2).mono ?_
  rintro e w' ⟨rfl, rfl⟩
  go_wp2_with fail
  refine (tail_yes s 2 w hs (by omega) a3).mono ?_
  rintro e w' ⟨rfl, rfl⟩
  go_wp2_with fail
  go_quiet (fail)
  rw [HC.out]
  go_wp2_with fail
  refine (is_no c _ g1).mono ?_
  rintro e w' ⟨rfl, rfl⟩
  go_wp2_with fail
  go_ret2
  exact ⟨rfl, below_drewN (Below.refl _ _) _⟩

set_option maxRecDepth 100000 in
set_option maxHeartbeats 800000 in
theorem ptD3 (s : ByteArray) (w : World) (hs : s.size ≤ 1000000000) (hn : 2 < s.size) (a0 : 224 ≤ (s[0].toNat : Int)) (a1 : (s[0].toNat : Int) < 240) (a2 : tlN s.size 1 (bAt s.data.toList 1)) (a3 : tlN s.size 2 (bAt s.data.toList 2)) (c : Nat) (hc : (((s[0].toNat : Int) - (224 : Int)) * (64 : Int) + (s[1].toNat : Int) - (128 : Int)) * (64 : Int) + (s[2].toNat : Int) - (128 : Int) = (c : Int)) (g0 : (c : Int) < 2048) :
    Calls Tryz.prog 170 #[.string s] w (PtPost w 0 0) := by
  have z0 : 0 < s.size := by omega
  have l0 : (s[0].toNat : Int) < 256 := by have := s[0].toNat_lt; omega
  have y0 : (0 : Int) < s.size := by omega
  have l1 : (s[1].toNat : Int) < 256 := by have := s[1].toNat_lt; omega
  have y1 : (1 : Int) < s.size := by omega
  have l2 : (s[2].toNat : Int) < 256 := by have := s[2].toNat_lt; omega
  have y2 : (2 : Int) < s.size := by omega
  have w0 : IntKind.i64.wrap ((s[0].toNat : Int) - (224 : Int)) = (s[0].toNat : Int) - (224 : Int) := IntWalk.i64_in _ (by omega)
  have w1 : IntKind.i64.wrap (((s[0].toNat : Int) - (224 : Int)) * (64 : Int)) = ((s[0].toNat : Int) - (224 : Int)) * (64 : Int) := IntWalk.i64_in _ (by omega)
  have w2 : IntKind.i64.wrap (((s[0].toNat : Int) - (224 : Int)) * (64 : Int) + (s[1].toNat : Int)) = ((s[0].toNat : Int) - (224 : Int)) * (64 : Int) + (s[1].toNat : Int) := IntWalk.i64_in _ (by omega)
  have w3 : IntKind.i64.wrap (((s[0].toNat : Int) - (224 : Int)) * (64 : Int) + (s[1].toNat : Int) - (128 : Int)) = ((s[0].toNat : Int) - (224 : Int)) * (64 : Int) + (s[1].toNat : Int) - (128 : Int) := IntWalk.i64_in _ (by omega)
  have w4 : IntKind.i64.wrap ((((s[0].toNat : Int) - (224 : Int)) * (64 : Int) + (s[1].toNat : Int) - (128 : Int)) * (64 : Int)) = (((s[0].toNat : Int) - (224 : Int)) * (64 : Int) + (s[1].toNat : Int) - (128 : Int)) * (64 : Int) := IntWalk.i64_in _ (by omega)
  have w5 : IntKind.i64.wrap ((((s[0].toNat : Int) - (224 : Int)) * (64 : Int) + (s[1].toNat : Int) - (128 : Int)) * (64 : Int) + (s[2].toNat : Int)) = (((s[0].toNat : Int) - (224 : Int)) * (64 : Int) + (s[1].toNat : Int) - (128 : Int)) * (64 : Int) + (s[2].toNat : Int) := IntWalk.i64_in _ (by omega)
  have w6 : IntKind.i64.wrap ((((s[0].toNat : Int) - (224 : Int)) * (64 : Int) + (s[1].toNat : Int) - (128 : Int)) * (64 : Int) + (s[2].toNat : Int) - (128 : Int)) = (((s[0].toNat : Int) - (224 : Int)) * (64 : Int) + (s[1].toNat : Int) - (128 : Int)) * (64 : Int) + (s[2].toNat : Int) - (128 : Int) := IntWalk.i64_in _ (by omega)
  have HC := Lib.hid hc
  clear hc
  have d0 : decide ((s[0].toNat : Int) < (128 : Int)) = false := decide_eq_false (by omega)
  have d1 : decide ((194 : Int) ≤ (s[0].toNat : Int)) = true := decide_eq_true (by omega)
  have d2 : decide ((s[0].toNat : Int) < (224 : Int)) = false := decide_eq_false (by omega)
  have d3 : decide ((224 : Int) ≤ (s[0].toNat : Int)) = true := decide_eq_true (by omega)
  have d4 : decide ((s[0].toNat : Int) < (240 : Int)) = true := decide_eq_true (by omega)
  have d5 : decide ((240 : Int) ≤ (s[0].toNat : Int)) = false := decide_eq_false (by omega)
  have d6 : decide ((s[0].toNat : Int) < (245 : Int)) = true := decide_eq_true (by omega)
  have d7 : decide ((2048 : Int) ≤ (c : Int)) = false := decide_eq_false (by omega)
  clear g0
  clear a0 a1
  go_enter Tryz.func170, Tryz.ntmps170
  go_wp2_with fail
  refine (tail_yes s 1 w hs (by omega) a2).mono ?_
  rintro e w' ⟨rfl, rfl⟩
  go_wp2_with fail
  refine (tail_yes s 2 w hs (by omega) a3).mono ?_
  rintro e w' ⟨rfl, rfl⟩
  go_wp2_with fail
  go_quiet (fail)
  rw [HC.out]
  go_wp2_with fail
  go_ret2
  exact ⟨rfl, below_drewN (Below.refl _ _) _⟩

set_option maxRecDepth 100000 in
set_option maxHeartbeats 800000 in
theorem ptD4 (s : ByteArray) (w : World) (hs : s.size ≤ 1000000000) (hn : 1 < s.size) (a0 : 224 ≤ (s[0].toNat : Int)) (a1 : (s[0].toNat : Int) < 240) (a2 : tlN s.size 1 (bAt s.data.toList 1)) (a3 : ¬ tlN s.size 2 (bAt s.data.toList 2)) :
    Calls Tryz.prog 170 #[.string s] w (PtPost w 0 0) := by
  have z0 : 0 < s.size := by omega
  have l0 : (s[0].toNat : Int) < 256 := by have := s[0].toNat_lt; omega
  have y0 : (0 : Int) < s.size := by omega
  have l1 : (s[1].toNat : Int) < 256 := by have := s[1].toNat_lt; omega
  have y1 : (1 : Int) < s.size := by omega
  have d0 : decide ((s[0].toNat : Int) < (128 : Int)) = false := decide_eq_false (by omega)
  have d1 : decide ((194 : Int) ≤ (s[0].toNat : Int)) = true := decide_eq_true (by omega)
  have d2 : decide ((s[0].toNat : Int) < (224 : Int)) = false := decide_eq_false (by omega)
  have d3 : decide ((224 : Int) ≤ (s[0].toNat : Int)) = true := decide_eq_true (by omega)
  have d4 : decide ((s[0].toNat : Int) < (240 : Int)) = true := decide_eq_true (by omega)
  have d5 : decide ((240 : Int) ≤ (s[0].toNat : Int)) = false := decide_eq_false (by omega)
  have d6 : decide ((s[0].toNat : Int) < (245 : Int)) = true := decide_eq_true (by omega)
  clear a0 a1
  go_enter Tryz.func170, Tryz.ntmps170
  go_wp2_with fail
  refine (tail_yes s 1 w hs (by omega) a2).mono ?_
  rintro e w' ⟨rfl, rfl⟩
  go_wp2_with fail
  refine (tail_no s 2 w hs (by omega) a3).mono ?_
  rintro e w' ⟨rfl, rfl⟩
  go_wp2_with fail
  go_ret2
  exact ⟨rfl, Below.refl _ _⟩

set_option maxRecDepth 100000 in
set_option maxHeartbeats 800000 in
theorem ptD5 (s : ByteArray) (w : World) (hs : s.size ≤ 1000000000) (hn : 0 < s.size) (a0 : 224 ≤ (s[0].toNat : Int)) (a1 : (s[0].toNat : Int) < 240) (a2 : ¬ tlN s.size 1 (bAt s.data.toList 1)) :
    Calls Tryz.prog 170 #[.string s] w (PtPost w 0 0) := by
  have z0 : 0 < s.size := by omega
  have l0 : (s[0].toNat : Int) < 256 := by have := s[0].toNat_lt; omega
  have y0 : (0 : Int) < s.size := by omega
  have d0 : decide ((s[0].toNat : Int) < (128 : Int)) = false := decide_eq_false (by omega)
  have d1 : decide ((194 : Int) ≤ (s[0].toNat : Int)) = true := decide_eq_true (by omega)
  have d2 : decide ((s[0].toNat : Int) < (224 : Int)) = false := decide_eq_false (by omega)
  have d3 : decide ((224 : Int) ≤ (s[0].toNat : Int)) = true := decide_eq_true (by omega)
  have d4 : decide ((s[0].toNat : Int) < (240 : Int)) = true := decide_eq_true (by omega)
  have d5 : decide ((240 : Int) ≤ (s[0].toNat : Int)) = false := decide_eq_false (by omega)
  have d6 : decide ((s[0].toNat : Int) < (245 : Int)) = true := decide_eq_true (by omega)
  clear a0 a1
  go_enter Tryz.func170, Tryz.ntmps170
  go_wp2_with fail
  refine (tail_no s 1 w hs (by omega) a2).mono ?_
  rintro e w' ⟨rfl, rfl⟩
  go_wp2_with fail
  go_ret2
  exact ⟨rfl, Below.refl _ _⟩

set_option maxRecDepth 100000 in
set_option maxHeartbeats 800000 in
theorem ptE1 (s : ByteArray) (w : World) (hs : s.size ≤ 1000000000) (hn : 3 < s.size) (a0 : 240 ≤ (s[0].toNat : Int)) (a1 : (s[0].toNat : Int) < 245) (a2 : tlN s.size 1 (bAt s.data.toList 1)) (a3 : tlN s.size 2 (bAt s.data.toList 2)) (a4 : tlN s.size 3 (bAt s.data.toList 3)) (c : Nat) (hc : ((((s[0].toNat : Int) - (240 : Int)) * (64 : Int) + (s[1].toNat : Int) - (128 : Int)) * (64 : Int) + (s[2].toNat : Int) - (128 : Int)) * (64 : Int) + (s[3].toNat : Int) - (128 : Int) = (c : Int)) (g0 : 65536 ≤ (c : Int)) (g1 : isN c) :
    Calls Tryz.prog 170 #[.string s] w (PtPost w c 4) := by
  have z0 : 0 < s.size := by omega
  have l0 : (s[0].toNat : Int) < 256 := by have := s[0].toNat_lt; omega
  have y0 : (0 : Int) < s.size := by omega
  have l1 : (s[1].toNat : Int) < 256 := by have := s[1].toNat_lt; omega
  have y1 : (1 : Int) < s.size := by omega
  have l2 : (s[2].toNat : Int) < 256 := by have := s[2].toNat_lt; omega
  have y2 : (2 : Int) < s.size := by omega
  have l3 : (s[3].toNat : Int) < 256 := by have := s[3].toNat_lt; omega
  have y3 : (3 : Int) < s.size := by omega
  have w0 : IntKind.i64.wrap ((s[0].toNat : Int) - (240 : Int)) = (s[0].toNat : Int) - (240 : Int) := IntWalk.i64_in _ (by omega)
  have w1 : IntKind.i64.wrap (((s[0].toNat : Int) - (240 : Int)) * (64 : Int)) = ((s[0].toNat : Int) - (240 : Int)) * (64 : Int) := IntWalk.i64_in _ (by omega)
  have w2 : IntKind.i64.wrap (((s[0].toNat : Int) - (240 : Int)) * (64 : Int) + (s[1].toNat : Int)) = ((s[0].toNat : Int) - (240 : Int)) * (64 : Int) + (s[1].toNat : Int) := IntWalk.i64_in _ (by omega)
  have w3 : IntKind.i64.wrap (((s[0].toNat : Int) - (240 : Int)) * (64 : Int) + (s[1].toNat : Int) - (128 : Int)) = ((s[0].toNat : Int) - (240 : Int)) * (64 : Int) + (s[1].toNat : Int) - (128 : Int) := IntWalk.i64_in _ (by omega)
  have w4 : IntKind.i64.wrap ((((s[0].toNat : Int) - (240 : Int)) * (64 : Int) + (s[1].toNat : Int) - (128 : Int)) * (64 : Int)) = (((s[0].toNat : Int) - (240 : Int)) * (64 : Int) + (s[1].toNat : Int) - (128 : Int)) * (64 : Int) := IntWalk.i64_in _ (by omega)
  have w5 : IntKind.i64.wrap ((((s[0].toNat : Int) - (240 : Int)) * (64 : Int) + (s[1].toNat : Int) - (128 : Int)) * (64 : Int) + (s[2].toNat : Int)) = (((s[0].toNat : Int) - (240 : Int)) * (64 : Int) + (s[1].toNat : Int) - (128 : Int)) * (64 : Int) + (s[2].toNat : Int) := IntWalk.i64_in _ (by omega)
  have w6 : IntKind.i64.wrap ((((s[0].toNat : Int) - (240 : Int)) * (64 : Int) + (s[1].toNat : Int) - (128 : Int)) * (64 : Int) + (s[2].toNat : Int) - (128 : Int)) = (((s[0].toNat : Int) - (240 : Int)) * (64 : Int) + (s[1].toNat : Int) - (128 : Int)) * (64 : Int) + (s[2].toNat : Int) - (128 : Int) := IntWalk.i64_in _ (by omega)
  have w7 : IntKind.i64.wrap (((((s[0].toNat : Int) - (240 : Int)) * (64 : Int) + (s[1].toNat : Int) - (128 : Int)) * (64 : Int) + (s[2].toNat : Int) - (128 : Int)) * (64 : Int)) = ((((s[0].toNat : Int) - (240 : Int)) * (64 : Int) + (s[1].toNat : Int) - (128 : Int)) * (64 : Int) + (s[2].toNat : Int) - (128 : Int)) * (64 : Int) := IntWalk.i64_in _ (by omega)
  have w8 : IntKind.i64.wrap (((((s[0].toNat : Int) - (240 : Int)) * (64 : Int) + (s[1].toNat : Int) - (128 : Int)) * (64 : Int) + (s[2].toNat : Int) - (128 : Int)) * (64 : Int) + (s[3].toNat : Int)) = ((((s[0].toNat : Int) - (240 : Int)) * (64 : Int) + (s[1].toNat : Int) - (128 : Int)) * (64 : Int) + (s[2].toNat : Int) - (128 : Int)) * (64 : Int) + (s[3].toNat : Int) := IntWalk.i64_in _ (by omega)
  have w9 : IntKind.i64.wrap (((((s[0].toNat : Int) - (240 : Int)) * (64 : Int) + (s[1].toNat : Int) - (128 : Int)) * (64 : Int) + (s[2].toNat : Int) - (128 : Int)) * (64 : Int) + (s[3].toNat : Int) - (128 : Int)) = ((((s[0].toNat : Int) - (240 : Int)) * (64 : Int) + (s[1].toNat : Int) - (128 : Int)) * (64 : Int) + (s[2].toNat : Int) - (128 : Int)) * (64 : Int) + (s[3].toNat : Int) - (128 : Int) := IntWalk.i64_in _ (by omega)
  have HC := Lib.hid hc
  clear hc
  have d0 : decide ((s[0].toNat : Int) < (128 : Int)) = false := decide_eq_false (by omega)
  have d1 : decide ((194 : Int) ≤ (s[0].toNat : Int)) = true := decide_eq_true (by omega)
  have d2 : decide ((s[0].toNat : Int) < (224 : Int)) = false := decide_eq_false (by omega)
  have d3 : decide ((224 : Int) ≤ (s[0].toNat : Int)) = true := decide_eq_true (by omega)
  have d4 : decide ((s[0].toNat : Int) < (240 : Int)) = false := decide_eq_false (by omega)
  have d5 : decide ((240 : Int) ≤ (s[0].toNat : Int)) = true := decide_eq_true (by omega)
  have d6 : decide ((s[0].toNat : Int) < (245 : Int)) = true := decide_eq_true (by omega)
  have d7 : decide ((65536 : Int) ≤ (c : Int)) = true := decide_eq_true (by omega)
  clear g0
  clear a0 a1
  go_enter Tryz.func170, Tryz.ntmps170
  go_wp2_with fail
  refine (tail_yes s 1 w hs (by omega) a2).mono ?_
  rintro e w' ⟨rfl, rfl⟩
  go_wp2_with fail
  refine (tail_yes s 2 w hs (by omega) a3).mono ?_
  rintro e w' ⟨rfl, rfl⟩
  go_wp2_with fail
  refine (tail_yes s 3 w hs (by omega) a4).mono ?_
  rintro e w' ⟨rfl, rfl⟩
  go_wp2_with fail
  go_quiet (fail)
  rw [HC.out]
  go_wp2_with fail
  refine (is_yes c _ g1).mono ?_
  rintro e w' ⟨rfl, rfl⟩
  go_wp2_with fail
  go_ret2
  exact ⟨rfl, below_drewN (Below.refl _ _) _⟩

set_option maxRecDepth 100000 in
set_option maxHeartbeats 800000 in
theorem ptE2 (s : ByteArray) (w : World) (hs : s.size ≤ 1000000000) (hn : 3 < s.size) (a0 : 240 ≤ (s[0].toNat : Int)) (a1 : (s[0].toNat : Int) < 245) (a2 : tlN s.size 1 (bAt s.data.toList 1)) (a3 : tlN s.size 2 (bAt s.data.toList 2)) (a4 : tlN s.size 3 (bAt s.data.toList 3)) (c : Nat) (hc : ((((s[0].toNat : Int) - (240 : Int)) * (64 : Int) + (s[1].toNat : Int) - (128 : Int)) * (64 : Int) + (s[2].toNat : Int) - (128 : Int)) * (64 : Int) + (s[3].toNat : Int) - (128 : Int) = (c : Int)) (g0 : 65536 ≤ (c : Int)) (g1 : ¬ isN c) :
    Calls Tryz.prog 170 #[.string s] w (PtPost w 0 0) := by
  have z0 : 0 < s.size := by omega
  have l0 : (s[0].toNat : Int) < 256 := by have := s[0].toNat_lt; omega
  have y0 : (0 : Int) < s.size := by omega
  have l1 : (s[1].toNat : Int) < 256 := by have := s[1].toNat_lt; omega
  have y1 : (1 : Int) < s.size := by omega
  have l2 : (s[2].toNat : Int) < 256 := by have := s[2].toNat_lt; omega
  have y2 : (2 : Int) < s.size := by omega
  have l3 : (s[3].toNat : Int) < 256 := by have := s[3].toNat_lt; omega
  have y3 : (3 : Int) < s.size := by omega
  have w0 : IntKind.i64.wrap ((s[0].toNat : Int) - (240 : Int)) = (s[0].toNat : Int) - (240 : Int) := IntWalk.i64_in _ (by omega)
  have w1 : IntKind.i64.wrap (((s[0].toNat : Int) - (240 : Int)) * (64 : Int)) = ((s[0].toNat : Int) - (240 : Int)) * (64 : Int) := IntWalk.i64_in _ (by omega)
  have w2 : IntKind.i64.wrap (((s[0].toNat : Int) - (240 : Int)) * (64 : Int) + (s[1].toNat : Int)) = ((s[0].toNat : Int) - (240 : Int)) * (64 : Int) + (s[1].toNat : Int) := IntWalk.i64_in _ (by omega)
  have w3 : IntKind.i64.wrap (((s[0].toNat : Int) - (240 : Int)) * (64 : Int) + (s[1].toNat : Int) - (128 : Int)) = ((s[0].toNat : Int) - (240 : Int)) * (64 : Int) + (s[1].toNat : Int) - (128 : Int) := IntWalk.i64_in _ (by omega)
  have w4 : IntKind.i64.wrap ((((s[0].toNat : Int) - (240 : Int)) * (64 : Int) + (s[1].toNat : Int) - (128 : Int)) * (64 : Int)) = (((s[0].toNat : Int) - (240 : Int)) * (64 : Int) + (s[1].toNat : Int) - (128 : Int)) * (64 : Int) := IntWalk.i64_in _ (by omega)
  have w5 : IntKind.i64.wrap ((((s[0].toNat : Int) - (240 : Int)) * (64 : Int) + (s[1].toNat : Int) - (128 : Int)) * (64 : Int) + (s[2].toNat : Int)) = (((s[0].toNat : Int) - (240 : Int)) * (64 : Int) + (s[1].toNat : Int) - (128 : Int)) * (64 : Int) + (s[2].toNat : Int) := IntWalk.i64_in _ (by omega)
  have w6 : IntKind.i64.wrap ((((s[0].toNat : Int) - (240 : Int)) * (64 : Int) + (s[1].toNat : Int) - (128 : Int)) * (64 : Int) + (s[2].toNat : Int) - (128 : Int)) = (((s[0].toNat : Int) - (240 : Int)) * (64 : Int) + (s[1].toNat : Int) - (128 : Int)) * (64 : Int) + (s[2].toNat : Int) - (128 : Int) := IntWalk.i64_in _ (by omega)
  have w7 : IntKind.i64.wrap (((((s[0].toNat : Int) - (240 : Int)) * (64 : Int) + (s[1].toNat : Int) - (128 : Int)) * (64 : Int) + (s[2].toNat : Int) - (128 : Int)) * (64 : Int)) = ((((s[0].toNat : Int) - (240 : Int)) * (64 : Int) + (s[1].toNat : Int) - (128 : Int)) * (64 : Int) + (s[2].toNat : Int) - (128 : Int)) * (64 : Int) := IntWalk.i64_in _ (by omega)
  have w8 : IntKind.i64.wrap (((((s[0].toNat : Int) - (240 : Int)) * (64 : Int) + (s[1].toNat : Int) - (128 : Int)) * (64 : Int) + (s[2].toNat : Int) - (128 : Int)) * (64 : Int) + (s[3].toNat : Int)) = ((((s[0].toNat : Int) - (240 : Int)) * (64 : Int) + (s[1].toNat : Int) - (128 : Int)) * (64 : Int) + (s[2].toNat : Int) - (128 : Int)) * (64 : Int) + (s[3].toNat : Int) := IntWalk.i64_in _ (by omega)
  have w9 : IntKind.i64.wrap (((((s[0].toNat : Int) - (240 : Int)) * (64 : Int) + (s[1].toNat : Int) - (128 : Int)) * (64 : Int) + (s[2].toNat : Int) - (128 : Int)) * (64 : Int) + (s[3].toNat : Int) - (128 : Int)) = ((((s[0].toNat : Int) - (240 : Int)) * (64 : Int) + (s[1].toNat : Int) - (128 : Int)) * (64 : Int) + (s[2].toNat : Int) - (128 : Int)) * (64 : Int) + (s[3].toNat : Int) - (128 : Int) := IntWalk.i64_in _ (by omega)
  have HC := Lib.hid hc
  clear hc
  have d0 : decide ((s[0].toNat : Int) < (128 : Int)) = false := decide_eq_false (by omega)
  have d1 : decide ((194 : Int) ≤ (s[0].toNat : Int)) = true := decide_eq_true (by omega)
  have d2 : decide ((s[0].toNat : Int) < (224 : Int)) = false := decide_eq_false (by omega)
  have d3 : decide ((224 : Int) ≤ (s[0].toNat : Int)) = true := decide_eq_true (by omega)
  have d4 : decide ((s[0].toNat : Int) < (240 : Int)) = false := decide_eq_false (by omega)
  have d5 : decide ((240 : Int) ≤ (s[0].toNat : Int)) = true := decide_eq_true (by omega)
  have d6 : decide ((s[0].toNat : Int) < (245 : Int)) = true := decide_eq_true (by omega)
  have d7 : decide ((65536 : Int) ≤ (c : Int)) = true := decide_eq_true (by omega)
  clear g0
  clear a0 a1
  go_enter Tryz.func170, Tryz.ntmps170
  go_wp2_with fail
  refine (tail_yes s 1 w hs (by omega) a2).mono ?_
  rintro e w' ⟨rfl, rfl⟩
  go_wp2_with fail
  refine (tail_yes s 2 w hs (by omega) a3).mono ?_
  rintro e w' ⟨rfl, rfl⟩
  go_wp2_with fail
  refine (tail_yes s 3 w hs (by omega) a4).mono ?_
  rintro e w' ⟨rfl, rfl⟩
  go_wp2_with fail
  go_quiet (fail)
  rw [HC.out]
  go_wp2_with fail
  refine (is_no c _ g1).mono ?_
  rintro e w' ⟨rfl, rfl⟩
  go_wp2_with fail
  go_ret2
  exact ⟨rfl, below_drewN (Below.refl _ _) _⟩

set_option maxRecDepth 100000 in
set_option maxHeartbeats 800000 in
theorem ptE3 (s : ByteArray) (w : World) (hs : s.size ≤ 1000000000) (hn : 3 < s.size) (a0 : 240 ≤ (s[0].toNat : Int)) (a1 : (s[0].toNat : Int) < 245) (a2 : tlN s.size 1 (bAt s.data.toList 1)) (a3 : tlN s.size 2 (bAt s.data.toList 2)) (a4 : tlN s.size 3 (bAt s.data.toList 3)) (c : Nat) (hc : ((((s[0].toNat : Int) - (240 : Int)) * (64 : Int) + (s[1].toNat : Int) - (128 : Int)) * (64 : Int) + (s[2].toNat : Int) - (128 : Int)) * (64 : Int) + (s[3].toNat : Int) - (128 : Int) = (c : Int)) (g0 : (c : Int) < 65536) :
    Calls Tryz.prog 170 #[.string s] w (PtPost w 0 0) := by
  have z0 : 0 < s.size := by omega
  have l0 : (s[0].toNat : Int) < 256 := by have := s[0].toNat_lt; omega
  have y0 : (0 : Int) < s.size := by omega
  have l1 : (s[1].toNat : Int) < 256 := by have := s[1].toNat_lt; omega
  have y1 : (1 : Int) < s.size := by omega
  have l2 : (s[2].toNat : Int) < 256 := by have := s[2].toNat_lt; omega
  have y2 : (2 : Int) < s.size := by omega
  have l3 : (s[3].toNat : Int) < 256 := by have := s[3].toNat_lt; omega
  have y3 : (3 : Int) < s.size := by omega
  have w0 : IntKind.i64.wrap ((s[0].toNat : Int) - (240 : Int)) = (s[0].toNat : Int) - (240 : Int) := IntWalk.i64_in _ (by omega)
  have w1 : IntKind.i64.wrap (((s[0].toNat : Int) - (240 : Int)) * (64 : Int)) = ((s[0].toNat : Int) - (240 : Int)) * (64 : Int) := IntWalk.i64_in _ (by omega)
  have w2 : IntKind.i64.wrap (((s[0].toNat : Int) - (240 : Int)) * (64 : Int) + (s[1].toNat : Int)) = ((s[0].toNat : Int) - (240 : Int)) * (64 : Int) + (s[1].toNat : Int) := IntWalk.i64_in _ (by omega)
  have w3 : IntKind.i64.wrap (((s[0].toNat : Int) - (240 : Int)) * (64 : Int) + (s[1].toNat : Int) - (128 : Int)) = ((s[0].toNat : Int) - (240 : Int)) * (64 : Int) + (s[1].toNat : Int) - (128 : Int) := IntWalk.i64_in _ (by omega)
  have w4 : IntKind.i64.wrap ((((s[0].toNat : Int) - (240 : Int)) * (64 : Int) + (s[1].toNat : Int) - (128 : Int)) * (64 : Int)) = (((s[0].toNat : Int) - (240 : Int)) * (64 : Int) + (s[1].toNat : Int) - (128 : Int)) * (64 : Int) := IntWalk.i64_in _ (by omega)
  have w5 : IntKind.i64.wrap ((((s[0].toNat : Int) - (240 : Int)) * (64 : Int) + (s[1].toNat : Int) - (128 : Int)) * (64 : Int) + (s[2].toNat : Int)) = (((s[0].toNat : Int) - (240 : Int)) * (64 : Int) + (s[1].toNat : Int) - (128 : Int)) * (64 : Int) + (s[2].toNat : Int) := IntWalk.i64_in _ (by omega)
  have w6 : IntKind.i64.wrap ((((s[0].toNat : Int) - (240 : Int)) * (64 : Int) + (s[1].toNat : Int) - (128 : Int)) * (64 : Int) + (s[2].toNat : Int) - (128 : Int)) = (((s[0].toNat : Int) - (240 : Int)) * (64 : Int) + (s[1].toNat : Int) - (128 : Int)) * (64 : Int) + (s[2].toNat : Int) - (128 : Int) := IntWalk.i64_in _ (by omega)
  have w7 : IntKind.i64.wrap (((((s[0].toNat : Int) - (240 : Int)) * (64 : Int) + (s[1].toNat : Int) - (128 : Int)) * (64 : Int) + (s[2].toNat : Int) - (128 : Int)) * (64 : Int)) = ((((s[0].toNat : Int) - (240 : Int)) * (64 : Int) + (s[1].toNat : Int) - (128 : Int)) * (64 : Int) + (s[2].toNat : Int) - (128 : Int)) * (64 : Int) := IntWalk.i64_in _ (by omega)
  have w8 : IntKind.i64.wrap (((((s[0].toNat : Int) - (240 : Int)) * (64 : Int) + (s[1].toNat : Int) - (128 : Int)) * (64 : Int) + (s[2].toNat : Int) - (128 : Int)) * (64 : Int) + (s[3].toNat : Int)) = ((((s[0].toNat : Int) - (240 : Int)) * (64 : Int) + (s[1].toNat : Int) - (128 : Int)) * (64 : Int) + (s[2].toNat : Int) - (128 : Int)) * (64 : Int) + (s[3].toNat : Int) := IntWalk.i64_in _ (by omega)
  have w9 : IntKind.i64.wrap (((((s[0].toNat : Int) - (240 : Int)) * (64 : Int) + (s[1].toNat : Int) - (128 : Int)) * (64 : Int) + (s[2].toNat : Int) - (128 : Int)) * (64 : Int) + (s[3].toNat : Int) - (128 : Int)) = ((((s[0].toNat : Int) - (240 : Int)) * (64 : Int) + (s[1].toNat : Int) - (128 : Int)) * (64 : Int) + (s[2].toNat : Int) - (128 : Int)) * (64 : Int) + (s[3].toNat : Int) - (128 : Int) := IntWalk.i64_in _ (by omega)
  have HC := Lib.hid hc
  clear hc
  have d0 : decide ((s[0].toNat : Int) < (128 : Int)) = false := decide_eq_false (by omega)
  have d1 : decide ((194 : Int) ≤ (s[0].toNat : Int)) = true := decide_eq_true (by omega)
  have d2 : decide ((s[0].toNat : Int) < (224 : Int)) = false := decide_eq_false (by omega)
  have d3 : decide ((224 : Int) ≤ (s[0].toNat : Int)) = true := decide_eq_true (by omega)
  have d4 : decide ((s[0].toNat : Int) < (240 : Int)) = false := decide_eq_false (by omega)
  have d5 : decide ((240 : Int) ≤ (s[0].toNat : Int)) = true := decide_eq_true (by omega)
  have d6 : decide ((s[0].toNat : Int) < (245 : Int)) = true := decide_eq_true (by omega)
  have d7 : decide ((65536 : Int) ≤ (c : Int)) = false := decide_eq_false (by omega)
  clear g0
  clear a0 a1
  go_enter Tryz.func170, Tryz.ntmps170
  go_wp2_with fail
  refine (tail_yes s 1 w hs (by omega) a2).mono ?_
  rintro e w' ⟨rfl, rfl⟩
  go_wp2_with fail
  refine (tail_yes s 2 w hs (by omega) a3).mono ?_
  rintro e w' ⟨rfl, rfl⟩
  go_wp2_with fail
  refine (tail_yes s 3 w hs (by omega) a4).mono ?_
  rintro e w' ⟨rfl, rfl⟩
  go_wp2_with fail
  go_quiet (fail)
  rw [HC.out]
  go_wp2_with fail
  go_ret2
  exact ⟨rfl, below_drewN (Below.refl _ _) _⟩

set_option maxRecDepth 100000 in
set_option maxHeartbeats 800000 in
theorem ptE4 (s : ByteArray) (w : World) (hs : s.size ≤ 1000000000) (hn : 2 < s.size) (a0 : 240 ≤ (s[0].toNat : Int)) (a1 : (s[0].toNat : Int) < 245) (a2 : tlN s.size 1 (bAt s.data.toList 1)) (a3 : tlN s.size 2 (bAt s.data.toList 2)) (a4 : ¬ tlN s.size 3 (bAt s.data.toList 3)) :
    Calls Tryz.prog 170 #[.string s] w (PtPost w 0 0) := by
  have z0 : 0 < s.size := by omega
  have l0 : (s[0].toNat : Int) < 256 := by have := s[0].toNat_lt; omega
  have y0 : (0 : Int) < s.size := by omega
  have l1 : (s[1].toNat : Int) < 256 := by have := s[1].toNat_lt; omega
  have y1 : (1 : Int) < s.size := by omega
  have l2 : (s[2].toNat : Int) < 256 := by have := s[2].toNat_lt; omega
  have y2 : (2 : Int) < s.size := by omega
  have d0 : decide ((s[0].toNat : Int) < (128 : Int)) = false := decide_eq_false (by omega)
  have d1 : decide ((194 : Int) ≤ (s[0].toNat : Int)) = true := decide_eq_true (by omega)
  have d2 : decide ((s[0].toNat : Int) < (224 : Int)) = false := decide_eq_false (by omega)
  have d3 : decide ((224 : Int) ≤ (s[0].toNat : Int)) = true := decide_eq_true (by omega)
  have d4 : decide ((s[0].toNat : Int) < (240 : Int)) = false := decide_eq_false (by omega)
  have d5 : decide ((240 : Int) ≤ (s[0].toNat : Int)) = true := decide_eq_true (by omega)
  have d6 : decide ((s[0].toNat : Int) < (245 : Int)) = true := decide_eq_true (by omega)
  clear a0 a1
  go_enter Tryz.func170, Tryz.ntmps170
  go_wp2_with fail
  refine (tail_yes s 1 w hs (by omega) a2).mono ?_
  rintro e w' ⟨rfl, rfl⟩
  go_wp2_with fail
  refine (tail_yes s 2 w hs (by omega) a3).mono ?_
  rintro e w' ⟨rfl, rfl⟩
  go_wp2_with fail
  refine (tail_no s 3 w hs (by omega) a4).mono ?_
  rintro e w' ⟨rfl, rfl⟩
  go_wp2_with fail
  go_ret2
  exact ⟨rfl, Below.refl _ _⟩

set_option maxRecDepth 100000 in
set_option maxHeartbeats 800000 in
theorem ptE5 (s : ByteArray) (w : World) (hs : s.size ≤ 1000000000) (hn : 1 < s.size) (a0 : 240 ≤ (s[0].toNat : Int)) (a1 : (s[0].toNat : Int) < 245) (a2 : tlN s.size 1 (bAt s.data.toList 1)) (a3 : ¬ tlN s.size 2 (bAt s.data.toList 2)) :
    Calls Tryz.prog 170 #[.string s] w (PtPost w 0 0) := by
  have z0 : 0 < s.size := by omega
  have l0 : (s[0].toNat : Int) < 256 := by have := s[0].toNat_lt; omega
  have y0 : (0 : Int) < s.size := by omega
  have l1 : (s[1].toNat : Int) < 256 := by have := s[1].toNat_lt; omega
  have y1 : (1 : Int) < s.size := by omega
  have d0 : decide ((s[0].toNat : Int) < (128 : Int)) = false := decide_eq_false (by omega)
  have d1 : decide ((194 : Int) ≤ (s[0].toNat : Int)) = true := decide_eq_true (by omega)
  have d2 : decide ((s[0].toNat : Int) < (224 : Int)) = false := decide_eq_false (by omega)
  have d3 : decide ((224 : Int) ≤ (s[0].toNat : Int)) = true := decide_eq_true (by omega)
  have d4 : decide ((s[0].toNat : Int) < (240 : Int)) = false := decide_eq_false (by omega)
  have d5 : decide ((240 : Int) ≤ (s[0].toNat : Int)) = true := decide_eq_true (by omega)
  have d6 : decide ((s[0].toNat : Int) < (245 : Int)) = true := decide_eq_true (by omega)
  clear a0 a1
  go_enter Tryz.func170, Tryz.ntmps170
  go_wp2_with fail
  refine (tail_yes s 1 w hs (by omega) a2).mono ?_
  rintro e w' ⟨rfl, rfl⟩
  go_wp2_with fail
  refine (tail_no s 2 w hs (by omega) a3).mono ?_
  rintro e w' ⟨rfl, rfl⟩
  go_wp2_with fail
  go_ret2
  exact ⟨rfl, Below.refl _ _⟩

set_option maxRecDepth 100000 in
set_option maxHeartbeats 800000 in
theorem ptE6 (s : ByteArray) (w : World) (hs : s.size ≤ 1000000000) (hn : 0 < s.size) (a0 : 240 ≤ (s[0].toNat : Int)) (a1 : (s[0].toNat : Int) < 245) (a2 : ¬ tlN s.size 1 (bAt s.data.toList 1)) :
    Calls Tryz.prog 170 #[.string s] w (PtPost w 0 0) := by
  have z0 : 0 < s.size := by omega
  have l0 : (s[0].toNat : Int) < 256 := by have := s[0].toNat_lt; omega
  have y0 : (0 : Int) < s.size := by omega
  have d0 : decide ((s[0].toNat : Int) < (128 : Int)) = false := decide_eq_false (by omega)
  have d1 : decide ((194 : Int) ≤ (s[0].toNat : Int)) = true := decide_eq_true (by omega)
  have d2 : decide ((s[0].toNat : Int) < (224 : Int)) = false := decide_eq_false (by omega)
  have d3 : decide ((224 : Int) ≤ (s[0].toNat : Int)) = true := decide_eq_true (by omega)
  have d4 : decide ((s[0].toNat : Int) < (240 : Int)) = false := decide_eq_false (by omega)
  have d5 : decide ((240 : Int) ≤ (s[0].toNat : Int)) = true := decide_eq_true (by omega)
  have d6 : decide ((s[0].toNat : Int) < (245 : Int)) = true := decide_eq_true (by omega)
  clear a0 a1
  go_enter Tryz.func170, Tryz.ntmps170
  go_wp2_with fail
  refine (tail_no s 1 w hs (by omega) a2).mono ?_
  rintro e w' ⟨rfl, rfl⟩
  go_wp2_with fail
  go_ret2
  exact ⟨rfl, Below.refl _ _⟩

set_option maxRecDepth 100000 in
set_option maxHeartbeats 800000 in
theorem ptF (s : ByteArray) (w : World) (hs : s.size ≤ 1000000000) (hn : 0 < s.size) (a0 : 245 ≤ (s[0].toNat : Int)) :
    Calls Tryz.prog 170 #[.string s] w (PtPost w 0 0) := by
  have z0 : 0 < s.size := by omega
  have l0 : (s[0].toNat : Int) < 256 := by have := s[0].toNat_lt; omega
  have y0 : (0 : Int) < s.size := by omega
  have d0 : decide ((s[0].toNat : Int) < (128 : Int)) = false := decide_eq_false (by omega)
  have d1 : decide ((194 : Int) ≤ (s[0].toNat : Int)) = true := decide_eq_true (by omega)
  have d2 : decide ((s[0].toNat : Int) < (224 : Int)) = false := decide_eq_false (by omega)
  have d3 : decide ((224 : Int) ≤ (s[0].toNat : Int)) = true := decide_eq_true (by omega)
  have d4 : decide ((s[0].toNat : Int) < (240 : Int)) = false := decide_eq_false (by omega)
  have d5 : decide ((240 : Int) ≤ (s[0].toNat : Int)) = true := decide_eq_true (by omega)
  have d6 : decide ((s[0].toNat : Int) < (245 : Int)) = false := decide_eq_false (by omega)
  clear a0
  go_enter Tryz.func170, Tryz.ntmps170
  go_wp2_with fail
  go_ret2
  exact ⟨rfl, Below.refl _ _⟩

end Go.Proofs.YtcfdalmllegefaaGreatDoor
/- Package copyistref01: point, List, Valid, Len at every string; package runes: Len (how much at most). -/
namespace Go.Proofs.YtcfdalmllegefaaGreatDoor
open Go.RowKit
set_option linter.unusedVariables false
set_option linter.unusedSimpArgs false
abbrev encI (z : Int) : List Value := [.int .i64 z]
theorem eltI : Elt encI 88 3 1 8 (.int .i64 0) := ⟨Tryz.underlying88, by kernel_rfl, rfl, by omega, fun _ => rfl, fun x u hu => by simp at hu; subst hu; rfl⟩

theorem Calls.cong {P : Program} {f : FuncId} {args : Array Value} {w : World} {Q Q' : Ending → World → Prop} (h : Calls P f args w Q) (e : Q = Q') : Calls P f args w Q' := e ▸ h
theorem PtPost_eq (w : World) {c n c' n' : Nat} (h1 : c = c') (h2 : n = n') : PtPost w c n = PtPost w c' n' := by rw [h1, h2]
theorem size_len (s : ByteArray) : s.data.toList.length = s.size := by simp
set_option maxHeartbeats 1000000 in
theorem point_any (s : ByteArray) (w : World) (hs : s.size ≤ 1000000000) (h0 : 0 < s.size) : Calls Tryz.prog 170 #[.string s] w (PtPost w (ptL s.data.toList).1 (ptL s.data.toList).2) := by
  have e : ptL s.data.toList = ptN s.size (bAt s.data.toList 0) (bAt s.data.toList 1) (bAt s.data.toList 2) (bAt s.data.toList 3) := by unfold ptL; rw [size_len]
  rw [e]
  unfold ptN
  have b0 := bAt_get s 0 h0
  by_cases a0 : bAt s.data.toList 0 < 128
  · rw [if_pos a0, b0]; exact ptA s w hs h0 (by omega)
  rw [if_neg a0]
  by_cases a1 : (194 ≤ bAt s.data.toList 0 ∧ bAt s.data.toList 0 < 224) ∧ tlN s.size 1 (bAt s.data.toList 1)
  · rw [if_pos a1]
    have h1 : 1 < s.size := a1.2.1
    have b1 := bAt_get s 1 h1
    have t1 := a1.2.2
    exact ptB1 s w hs h1 (by omega) (by omega) a1.2 _ (by unfold c2N; omega)
  rw [if_neg a1]
  by_cases a2 : (224 ≤ bAt s.data.toList 0 ∧ bAt s.data.toList 0 < 240) ∧ tlN s.size 1 (bAt s.data.toList 1) ∧ tlN s.size 2 (bAt s.data.toList 2)
  · rw [if_pos a2]
    have h2 : 2 < s.size := a2.2.2.1
    have b1 := bAt_get s 1 (by omega)
    have b2 := bAt_get s 2 h2
    have t1 := a2.2.1.2
    have t2 := a2.2.2.2
    have ec : (((s[0].toNat : Int) - (224 : Int)) * (64 : Int) + (s[1].toNat : Int) - (128 : Int)) * (64 : Int) + (s[2].toNat : Int) - (128 : Int) = (c3N (bAt s.data.toList 0) (bAt s.data.toList 1) (bAt s.data.toList 2) : Nat) := by unfold c3N; omega
    by_cases a3 : 2048 ≤ c3N (bAt s.data.toList 0) (bAt s.data.toList 1) (bAt s.data.toList 2) ∧ isN (c3N (bAt s.data.toList 0) (bAt s.data.toList 1) (bAt s.data.toList 2))
    · rw [if_pos a3]
      exact ptD1 s w hs h2 (by omega) (by omega) a2.2.1 a2.2.2 _ ec (by omega) a3.2
    · rw [if_neg a3]
      by_cases a4 : 2048 ≤ c3N (bAt s.data.toList 0) (bAt s.data.toList 1) (bAt s.data.toList 2)
      · exact ptD2 s w hs h2 (by omega) (by omega) a2.2.1 a2.2.2 _ ec (by omega) (fun h => a3 ⟨a4, h⟩)
      · exact ptD3 s w hs h2 (by omega) (by omega) a2.2.1 a2.2.2 _ ec (by omega)
  rw [if_neg a2]
  by_cases a4 : (240 ≤ bAt s.data.toList 0 ∧ bAt s.data.toList 0 < 245) ∧ tlN s.size 1 (bAt s.data.toList 1) ∧ tlN s.size 2 (bAt s.data.toList 2) ∧ tlN s.size 3 (bAt s.data.toList 3)
  · rw [if_pos a4]
    have h3 : 3 < s.size := a4.2.2.2.1
    have b1 := bAt_get s 1 (by omega)
    have b2 := bAt_get s 2 (by omega)
    have b3 := bAt_get s 3 h3
    have t1 := a4.2.1.2
    have t2 := a4.2.2.1.2
    have t3 := a4.2.2.2.2
    have ec : ((((s[0].toNat : Int) - (240 : Int)) * (64 : Int) + (s[1].toNat : Int) - (128 : Int)) * (64 : Int) + (s[2].toNat : Int) - (128 : Int)) * (64 : Int) + (s[3].toNat : Int) - (128 : Int) = (c4N (bAt s.data.toList 0) (bAt s.data.toList 1) (bAt s.data.toList 2) (bAt s.data.toList 3) : Nat) := by unfold c4N; omega
    by_cases a3 : 65536 ≤ c4N (bAt s.data.toList 0) (bAt s.data.toList 1) (bAt s.data.toList 2) (bAt s.data.toList 3) ∧ isN (c4N (bAt s.data.toList 0) (bAt s.data.toList 1) (bAt s.data.toList 2) (bAt s.data.toList 3))
    · rw [if_pos a3]
      exact ptE1 s w hs h3 (by omega) (by omega) a4.2.1 a4.2.2.1 a4.2.2.2 _ ec (by omega) a3.2
    · rw [if_neg a3]
      by_cases a5 : 65536 ≤ c4N (bAt s.data.toList 0) (bAt s.data.toList 1) (bAt s.data.toList 2) (bAt s.data.toList 3)
      · exact ptE2 s w hs h3 (by omega) (by omega) a4.2.1 a4.2.2.1 a4.2.2.2 _ ec (by omega) (fun h => a3 ⟨a5, h⟩)
      · exact ptE3 s w hs h3 (by omega) (by omega) a4.2.1 a4.2.2.1 a4.2.2.2 _ ec (by omega)
  rw [if_neg a4]
  by_cases c0 : bAt s.data.toList 0 < 194
  · exact ptC s w hs h0 (by omega) (by omega)
  by_cases t1 : tlN s.size 1 (bAt s.data.toList 1)
  · by_cases c1 : bAt s.data.toList 0 < 224
    · exact absurd ⟨⟨by omega, c1⟩, t1⟩ a1
    by_cases t2 : tlN s.size 2 (bAt s.data.toList 2)
    · by_cases c2 : bAt s.data.toList 0 < 240
      · exact absurd ⟨⟨by omega, c2⟩, t1, t2⟩ a2
      by_cases t3 : tlN s.size 3 (bAt s.data.toList 3)
      · by_cases c3 : bAt s.data.toList 0 < 245
        · exact absurd ⟨⟨by omega, c3⟩, t1, t2, t3⟩ a4
        exact ptF s w hs h0 (by omega)
      · by_cases c3 : bAt s.data.toList 0 < 245
        · exact ptE4 s w hs t2.1 (by omega) (by omega) t1 t2 t3
        exact ptF s w hs h0 (by omega)
    · by_cases c2 : bAt s.data.toList 0 < 240
      · exact ptD4 s w hs t1.1 (by omega) (by omega) t1 t2
      by_cases c3 : bAt s.data.toList 0 < 245
      · exact ptE5 s w hs t1.1 (by omega) (by omega) t1 t2
      exact ptF s w hs h0 (by omega)
  · by_cases c1 : bAt s.data.toList 0 < 224
    · exact ptB2 s w hs h0 (by omega) (by omega) t1
    by_cases c2 : bAt s.data.toList 0 < 240
    · exact ptD5 s w hs h0 (by omega) (by omega) t1
    by_cases c3 : bAt s.data.toList 0 < 245
    · exact ptE6 s w hs h0 (by omega) (by omega) t1
    exact ptF s w hs h0 (by omega)

/-- Handed back by List: the characters, or none. -/
def ListPost (w : World) (o : Option (List Nat)) (e : Ending) (w' : World) : Prop := Below w.heap.size w w' ∧ match o with
  | some cs => ∃ v, e = .returned (.tuple #[v, .int .i64 0]) ∧ ROwn encI 3 1 w.heap.size w' v (cs.map Int.ofNat)
  | none => e = .returned (.tuple #[.slice none 0 0, .int .i64 5])
def strSz : Value → Nat
  | .string t => t.size
  | _ => 0
theorem ne_of_size {t : ByteArray} (h : 0 < t.size) : t.data.toList ≠ [] := fun e => by
  have := congrArg List.length e
  rw [size_len, List.length_nil] at this
  omega
theorem extract_size (s : ByteArray) (a : Nat) (h : a ≤ s.size) : (s.extract a s.size).size = s.size - a := by simp
set_option maxRecDepth 100000 in
set_option maxHeartbeats 2000000 in
theorem list_any (s : ByteArray) (w : World) (hs : s.size ≤ 1000000000) : Calls Tryz.prog 89 #[.string s] w (ListPost w (charsD s.data.toList)) := by
  go_enter Tryz.func89, Tryz.ntmps89
  go_wp2_with fail
  go_loopw [0, 4] (fun vs vo wr => ∃ (t : ByteArray) (pre : List Nat), vs = .string t ∧ ROwn encI 3 1 w.heap.size wr vo (pre.map Int.ofNat) ∧ Below w.heap.size w wr ∧ pre.length + t.size ≤ s.size ∧ charsD s.data.toList = (charsD t.data.toList).map (pre ++ ·)) (fun vs _ _ => strSz vs)
  case atStart => exact ⟨s, [], rfl, ROwn.nil _ _, Below.refl _ _, by simp, by simp⟩
  case round =>
    obtain ⟨t, pre, rfl, hown, hbel, hle, hcs⟩ := hrel
    have HCS := Lib.hid hcs
    clear hcs
    by_cases ht : 0 < t.size
    · have hd : decide ((0 : Int) < t.size) = true := decide_eq_true (by omega)
      have hne : t.data.toList ≠ [] := ne_of_size ht
      have hb := ptL_bound _ hne
      have hstep := charsD_step _ hne
      rw [size_len] at hb
      have hpt := point_any t wr (by omega) ht
      obtain ⟨c, n, hq⟩ : ∃ c n, ptL t.data.toList = (c, n) := ⟨_, _, rfl⟩
      rw [hq] at hb hstep hpt
      have HST := Lib.hid hstep
      have HPT := Lib.hid hpt
      clear hstep hpt hq
      dsimp only at hb
      obtain ⟨hb1, hb2, hb3⟩ := hb
      go_wp2_with fail
      refine HPT.out.mono ?_
      rintro e w1 ⟨rfl, hb1'⟩
      by_cases hn : n = 0
      · subst hn
        go_wp2_with fail
        go_ret2
        refine ⟨up2 hbel hb1', ?_⟩
        rw [HCS.out, HST.out]
        rfl
      · have hnz : ((n : Int) == 0) = false := by simp; omega
        have h0n : (0 : Int) ≤ n := by omega
        have hns : (n : Int) ≤ t.size := by omega
        obtain ⟨v', w', happ, hown', hb', _⟩ := append_elem eltI ((hown.up hb1')) (Nat.le_trans hbel.size hb1'.size) (Int.ofNat c) (by simp; omega) (by omega)
        have HP := Lib.hid happ
        clear happ
        go_wp2_with (at_builtin; refine wpList_app_run rfl _ _ _ rfl rfl rfl HP.out ?_)
        go_roundw
        case rel =>
          refine ⟨t.extract n t.size, pre ++ [c], rfl, by simpa using hown', (up2 hbel hb1').trans hb', by rw [extract_size t n hb1, List.length_append]; simp; omega, ?_⟩
          rw [HCS.out, HST.out, if_neg hn, Lib.extract_to_end]
          cases charsD (t.data.toList.drop n) <;> simp
        case measure => simp only [strSz]; rw [extract_size t n hb1]; omega
    · have hd : decide ((0 : Int) < t.size) = false := decide_eq_false (by omega)
      go_wp2_with fail
      go_ret2
      refine ⟨hbel, ?_⟩
      have e0 : t.data.toList = [] := List.eq_nil_of_length_eq_zero (by rw [size_len]; omega)
      rw [HCS.out, e0, charsD_nil]
      exact ⟨_, rfl, by simpa using hown⟩
theorem vld_chars (s : ByteArray) : vld s = (charsD s.data.toList).isSome := (chars_valid _ _ (Nat.le_refl _)).symm
/-- How many characters: none if the string is not valid. -/
def lenR (s : ByteArray) : Nat := ((charsD s.data.toList).getD []).length
theorem lenR_le (s : ByteArray) : lenR s ≤ s.size := by
  unfold lenR
  cases h : charsD s.data.toList with
  | none => simp
  | some cs =>
    have := chars_len _ _ cs (Nat.le_refl _) h
    rw [size_len] at this
    simpa using this
set_option maxHeartbeats 1000000 in
theorem rvalid_any (s : ByteArray) (w : World) (hs : s.size ≤ 1000000000) : Calls Tryz.prog 73 #[.string s] w fun e w' => e = .returned (.bool (vld s)) ∧ Below w.heap.size w w' := by
  rw [vld_chars]
  have hL := list_any s w hs
  cases hc : charsD s.data.toList with
  | none =>
    rw [hc] at hL
    have HL := Lib.hid hL
    clear hL hc
    go_enter Tryz.func73, Tryz.ntmps73
    go_wp2_with fail
    refine HL.out.mono ?_
    rintro e w' ⟨hb, rfl⟩
    go_wp2_with fail
    go_ret
    exact ⟨rfl, hb⟩
  | some cs =>
    rw [hc] at hL
    have HL := Lib.hid hL
    clear hL hc
    go_enter Tryz.func73, Tryz.ntmps73
    go_wp2_with fail
    refine HL.out.mono ?_
    rintro e w' ⟨hb, v, rfl, hown⟩
    go_wp2_with fail
    go_ret
    exact ⟨rfl, hb⟩
set_option maxHeartbeats 1000000 in
theorem rlen_any (s : ByteArray) (w : World) (hs : s.size ≤ 1000000000) : Calls Tryz.prog 97 #[.string s] w fun e w' => e = .returned (.int .i64 (lenR s)) ∧ Below w.heap.size w w' := by
  unfold lenR
  have hL := list_any s w hs
  cases hc : charsD s.data.toList with
  | none =>
    rw [hc] at hL
    have HL := Lib.hid hL
    clear hL hc
    go_enter Tryz.func97, Tryz.ntmps97
    go_wp2_with fail
    refine HL.out.mono ?_
    rintro e w' ⟨hb, rfl⟩
    go_wp2_with fail
    go_ret
    exact ⟨ret_int (by simp), hb⟩
  | some cs =>
    rw [hc] at hL
    have HL := Lib.hid hL
    clear hL hc
    go_enter Tryz.func97, Tryz.ntmps97
    go_wp2_with fail
    refine HL.out.mono ?_
    rintro e w' ⟨hb, v, rfl, hown⟩
    obtain ⟨A, cp, rfl, h1, h2, h3⟩ := hown.shape eltI
    rw [List.length_map] at *
    go_wp2_with fail
    go_ret
    exact ⟨ret_int (by simp), hb⟩

/-- runes.Len, of a valid string. -/
def rlenG (s : ByteArray) : Nat := if vld s then Lib.runeCount s else 0
theorem rlenG_le (s : ByteArray) : rlenG s ≤ s.size := by
  unfold rlenG
  split
  · exact Lib.runeCount_le s
  · omega
set_option maxHeartbeats 1000000 in
theorem runesLen {N : Nat} (s : ByteArray) (w : World) (hs : s.size ≤ 1000000000) (hT : Tabs N w) : Calls Tryz.prog 52 #[.string s] w fun e w' => e = .returned (.int .i64 (rlenG s)) ∧ Below w.heap.size w w' := by
  have hV := valid_any s w hs hT
  unfold rlenG
  have HV := Lib.hid hV
  clear hV
  cases hv : vld s with
  | true =>
    rw [hv] at HV
    go_enter Tryz.func52, Tryz.ntmps52
    go_wp2_with fail
    refine HV.out.mono ?_
    rintro e w' ⟨rfl, hb⟩
    have hC : Calls Tryz.prog 123 #[.string s] w' _ := Any.utf8_RuneCountInString Tryz.laysCount s w' (by omega)
    go_wp2_with fail
    refine hC.mono ?_
    rintro e w2 ⟨rfl, pos, rfl⟩
    go_wp2_with fail
    go_ret
    exact ⟨ret_int (by simp), up2 hb (below1 _ _)⟩
  | false =>
    rw [hv] at HV
    go_enter Tryz.func52, Tryz.ntmps52
    go_wp2_with fail
    refine HV.out.mono ?_
    rintro e w' ⟨rfl, hb⟩
    go_wp2_with fail
    go_ret
    exact ⟨ret_int (by simp), hb⟩
end Go.Proofs.YtcfdalmllegefaaGreatDoor
