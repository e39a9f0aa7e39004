/- Overlays: every method of an invalid object. -/
import Derived.Test.YthjkdeocdhdkaaaOvCp
namespace Go.Proofs.Ythjkdeocdhdkaaa
open Go.RowKit
set_option linter.unusedVariables false
set_option linter.unusedSimpArgs false
section
variable {w w' W : World}
abbrev nilO : Value := .pointer none
theorem n_valid (w : World) : Calls Try.prog 32 #[nilO] w fun e w' => e = .returned (.bool false) ∧ w = w' := by
  go_enter Try.func32, Try.ntmps32
  go_wp2
  go_ret
  exact ⟨rfl, rfl⟩
set_option maxHeartbeats 1000000 in
theorem n_find (id : Int) (w : World) : Calls Try.prog 34 #[nilO, .int .i64 id] w fun e w' => e = .returned (.tuple #[.pointer none, .int .i64 1]) ∧ Below w.heap.size w w' := by
  go_enter Try.func34, Try.ntmps34
  go_wp2_with fail
  refine (n_valid _).mono ?_
  rintro e w1 ⟨rfl, rfl⟩
  go_wp2_with fail
  go_ret2
  exact ⟨rfl, below1 _ _⟩
set_option maxRecDepth 100000 in
set_option maxHeartbeats 1000000 in
theorem n_add (f t : Int) (fr re : Bool) (w : World) : Calls Try.prog 13 #[nilO, .int .i64 f, .int .i64 t, .bool fr, .bool re] w fun e w' => e = .returned (.tuple #[.int .i64 0, .int .i64 1]) ∧ Below w.heap.size w w' := by
  go_enter Try.func13, Try.ntmps13
  go_wp2_with fail
  refine (n_valid _).mono ?_
  rintro e w1 ⟨rfl, rfl⟩
  go_wp2_with fail
  go_ret2
  exact ⟨rfl, Below.refl _ _⟩
set_option maxRecDepth 100000 in
set_option maxHeartbeats 1000000 in
theorem n_drop (id : Int) (w : World) : Calls Try.prog 49 #[nilO, .int .i64 id] w fun e w' => e = .returned (.int .i64 1) ∧ Below w.heap.size w w' := by
  go_enter Try.func49, Try.ntmps49
  go_wp2_with fail
  refine (n_find _ _).mono ?_
  rintro e w1 ⟨rfl, hb⟩
  have HB := Lib.hid hb
  clear hb
  go_wp2_with fail
  go_ret
  exact ⟨rfl, up2 HB.out (below1 _ _)⟩
set_option maxRecDepth 100000 in
set_option maxHeartbeats 1000000 in
theorem n_move (id f t : Int) (w : World) : Calls Try.prog 50 #[nilO, .int .i64 id, .int .i64 f, .int .i64 t] w fun e w' => e = .returned (.int .i64 1) ∧ Below w.heap.size w w' := by
  go_enter Try.func50, Try.ntmps50
  go_wp2_with fail
  refine (n_find _ _).mono ?_
  rintro e w1 ⟨rfl, hb⟩
  have HB := Lib.hid hb
  clear hb
  go_wp2_with fail
  go_ret
  exact ⟨rfl, HB.out⟩
set_option maxRecDepth 100000 in
set_option maxHeartbeats 1000000 in
theorem n_ends (id : Int) (w : World) : Calls Try.prog 14 #[nilO, .int .i64 id] w fun e w' => e = .returned (.tuple #[.int .i64 0, .int .i64 0, .bool false]) ∧ Below w.heap.size w w' := by
  go_enter Try.func14, Try.ntmps14
  go_wp2_with fail
  refine (n_find _ _).mono ?_
  rintro e w1 ⟨rfl, hb⟩
  have HB := Lib.hid hb
  clear hb
  go_wp2_with fail
  go_ret3
  exact ⟨rfl, HB.out⟩
set_option maxRecDepth 100000 in
set_option maxHeartbeats 1000000 in
theorem n_put (id nm k n : Int) (w : World) : Calls Try.prog 18 #[nilO, .int .i64 id, .int .i64 nm, .agg #[.int .i64 k, .int .i64 n]] w fun e w' => e = .returned (.int .i64 1) ∧ Below w.heap.size w w' := by
  go_enter Try.func18, Try.ntmps18
  go_wp2_with fail
  refine (n_find _ _).mono ?_
  rintro e w1 ⟨rfl, hb⟩
  have HB := Lib.hid (up2 (below1 _ _) hb)
  clear hb
  go_wp2_with fail
  go_ret
  exact ⟨rfl, HB.out⟩
set_option maxRecDepth 100000 in
set_option maxHeartbeats 1000000 in
theorem n_take (id nm : Int) (w : World) : Calls Try.prog 23 #[nilO, .int .i64 id, .int .i64 nm] w fun e w' => e = .returned (.int .i64 1) ∧ Below w.heap.size w w' := by
  go_enter Try.func23, Try.ntmps23
  go_wp2_with fail
  refine (n_find _ _).mono ?_
  rintro e w1 ⟨rfl, hb⟩
  have HB := Lib.hid hb
  clear hb
  go_wp2_with fail
  go_ret
  exact ⟨rfl, HB.out⟩
set_option maxRecDepth 100000 in
set_option maxHeartbeats 1000000 in
theorem n_ins (at_ n : Int) (w : World) : Calls Try.prog 16 #[nilO, .int .i64 at_, .int .i64 n] w fun e w' => e = .returned (.int .i64 1) ∧ Below w.heap.size w w' := by
  go_enter Try.func16, Try.ntmps16
  go_wp2_with fail
  refine (n_valid _).mono ?_
  rintro e w1 ⟨rfl, rfl⟩
  go_wp2_with fail
  go_ret
  exact ⟨rfl, Below.refl _ _⟩
set_option maxRecDepth 100000 in
set_option maxHeartbeats 1000000 in
theorem n_all  (w : World) : Calls Try.prog 25 #[nilO] w fun e w' => e = .returned (.slice none 0 0) ∧ Below w.heap.size w w' := by
  go_enter Try.func25, Try.ntmps25
  go_wp2_with fail
  refine (n_valid _).mono ?_
  rintro e w1 ⟨rfl, rfl⟩
  go_wp2_with fail
  go_ret
  exact ⟨rfl, Below.refl _ _⟩
set_option maxRecDepth 100000 in
set_option maxHeartbeats 1000000 in
theorem n_many  (w : World) : Calls Try.prog 29 #[nilO] w fun e w' => e = .returned (.int .i64 0) ∧ Below w.heap.size w w' := by
  go_enter Try.func29, Try.ntmps29
  go_wp2_with fail
  refine (n_valid _).mono ?_
  rintro e w1 ⟨rfl, rfl⟩
  go_wp2_with fail
  go_ret
  exact ⟨rfl, Below.refl _ _⟩
set_option maxRecDepth 100000 in
set_option maxHeartbeats 1000000 in
theorem n_copy  (w : World) : Calls Try.prog 30 #[nilO] w fun e w' => e = .returned (.pointer none) ∧ Below w.heap.size w w' := by
  go_enter Try.func30, Try.ntmps30
  go_wp2_with fail
  refine (n_valid _).mono ?_
  rintro e w1 ⟨rfl, rfl⟩
  go_wp2_with fail
  go_ret
  exact ⟨rfl, Below.refl _ _⟩
set_option maxRecDepth 100000 in
set_option maxHeartbeats 1000000 in
theorem n_next (at_ m : Int) (w : World) : Calls Try.prog 22 #[nilO, .int .i64 at_, .int .i64 m] w fun e w' => e = .returned (.int .i64 m) ∧ Below w.heap.size w w' := by
  go_enter Try.func22, Try.ntmps22
  go_wp2_with fail
  refine (n_valid _).mono ?_
  rintro e w1 ⟨rfl, rfl⟩
  go_wp2_with fail
  go_ret
  exact ⟨rfl, Below.refl _ _⟩
set_option maxRecDepth 100000 in
set_option maxHeartbeats 1000000 in
theorem n_del (f t : Int) (w : World) : Calls Try.prog 15 #[nilO, .int .i64 f, .int .i64 t] w fun e w' => e = .returned (.tuple #[.slice none 0 0, .int .i64 1]) ∧ Below w.heap.size w w' := by
  go_enter Try.func15, Try.ntmps15
  go_wp2_with fail
  refine (n_valid _).mono ?_
  rintro e w1 ⟨rfl, rfl⟩
  go_wp2_with fail
  go_ret2
  exact ⟨rfl, below1 _ _⟩
set_option maxRecDepth 100000 in
set_option maxHeartbeats 1000000 in
theorem n_order (fv : Value) (w : World) : Calls Try.prog 41 #[nilO, fv] w fun e w' => e = .returned (.slice none 0 0) ∧ Below w.heap.size w w' := by
  go_enter Try.func41, Try.ntmps41
  go_wp2_with fail
  refine (n_valid _).mono ?_
  rintro e w1 ⟨rfl, rfl⟩
  go_wp2_with fail
  go_ret
  exact ⟨rfl, below1 _ _⟩
theorem n_numbers (w : World) : Calls Try.prog 46 #[.slice none 0 0] w (IsPost w []) :=
  numbers_any (L := []) (A := none) (fun h => by simp at h) (fun x hx => by simp at hx) 0 (by simp)
set_option maxRecDepth 100000 in
set_option maxHeartbeats 1000000 in
theorem n_at (at_ : Int) (w : World) : Calls Try.prog 27 #[nilO, .int .i64 at_] w (IsPost w []) := by
  go_enter Try.func27, Try.ntmps27
  go_wp2_with fail
  refine (covers_any at_ w).mono ?_
  rintro e w1 ⟨rfl, rfl⟩
  go_wp2_with fail
  refine (n_order _ _).mono ?_
  rintro e w2 ⟨rfl, hb⟩
  have HB := Lib.hid (up2 (below1 w _) hb)
  clear hb
  go_wp2_with fail
  refine (n_numbers w2).mono ?_
  rintro e w3 ⟨v3, rfl, ho3, hb3⟩
  go_wp2_with fail
  go_ret
  exact ⟨v3, rfl, ho3.low HB.out.size, up2 HB.out hb3⟩
set_option maxRecDepth 100000 in
set_option maxHeartbeats 1000000 in
theorem n_in (f t : Int) (w : World) : Calls Try.prog 21 #[nilO, .int .i64 f, .int .i64 t] w (IsPost w []) := by
  go_enter Try.func21, Try.ntmps21
  go_wp2_with fail
  refine (n_order _ _).mono ?_
  rintro e w2 ⟨rfl, hb⟩
  have HB := Lib.hid (up2 (up2 (below1 w _) (below1 _ _)) hb)
  clear hb
  go_wp2_with fail
  refine (n_numbers w2).mono ?_
  rintro e w3 ⟨v3, rfl, ho3, hb3⟩
  go_wp2_with fail
  go_ret
  exact ⟨v3, rfl, ho3.low HB.out.size, up2 HB.out hb3⟩
end
end Go.Proofs.Ythjkdeocdhdkaaa
