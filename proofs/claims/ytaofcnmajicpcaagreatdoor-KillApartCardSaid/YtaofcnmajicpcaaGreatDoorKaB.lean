/- copyistlaw25.KillApart: rectangles without a buffer. -/
import Derived.Test.YtaofcnmajicpcaaGreatDoorKaA
namespace Go.Proofs.YtaofcnmajicpcaaGreatDoor
open Go.RowKit
set_option linter.unusedVariables false
set_option linter.unusedSimpArgs false
section
variable {w w' : World}
abbrev vw0 : Value := .agg #[.pointer none, .int .i64 0, .int .i64 0, .int .i64 0]
set_option maxHeartbeats 1000000 in
theorem look_nil (tab : Int) (right : Bool) (v : Value) (w : World) : Calls Tryz.prog 79 #[.pointer none, .int .i64 tab, .bool right, v] w (Ans w (.tuple #[vw0, .int .i64 1])) := by
  go_enter Tryz.func79, Tryz.ntmps79
  go_wp2_with fail
  exact bodyPost_ret (v := .tuple #[vw0, .int .i64 1]) (by simp [results, Tryz.results79, go_sem]) rfl ⟨rfl, below1 w _⟩
set_option maxHeartbeats 1000000 in
theorem tabbed_8 (w : World) : Calls Tryz.prog 80 #[.int .i64 8] w fun e w' => e = .returned (.bool true) ∧ w = w' := by
  go_enter Tryz.func80, Tryz.ntmps80
  go_wp2_with fail
  go_ret
  exact ⟨rfl, rfl⟩
set_option maxHeartbeats 1000000 in
theorem column_nil (k : Int) (w : World) : Calls Tryz.prog 44 #[.pointer none, .int .i64 k, .int .i64 8] w (Ans w (.tuple #[.int .i64 0, .int .i64 1])) := by
  go_enter Tryz.func44, Tryz.ntmps44
  go_wp2_with fail
  refine (tabbed_8 _).mono ?_
  rintro e w0 ⟨rfl, rfl⟩
  go_wp2_with fail
  refine (look_nil _ _ _ _).mono ?_
  rintro e w1 ⟨rfl, hb1⟩
  have B1 := Lib.hid (up2 (below1 _ _) hb1)
  clear hb1
  go_wp2_with fail
  go_ret2
  exact ⟨rfl, up2 B1.out (below1 _ _)⟩
set_option maxHeartbeats 1000000 in
theorem rows_nil (a z : Int) (w : World) : Calls Tryz.prog 30 #[.pointer none, .int .i64 a, .int .i64 z, .int .i64 8] w (Ans w (.tuple #[.slice none 0 0, .int .i64 1])) := by
  go_enter Tryz.func30, Tryz.ntmps30
  go_wp2_with fail
  refine (column_nil _ _).mono ?_
  rintro e w1 ⟨rfl, hb1⟩
  go_wp2_with fail
  go_ret2
  exact ⟨rfl, hb1⟩
set_option maxHeartbeats 1000000 in
theorem cut_nil (a z : Int) (w : World) : Calls Tryz.prog 9 #[.pointer none, .int .i64 a, .int .i64 z, .int .i64 8] w (Ans w (.tuple #[.slice none 0 0, .int .i64 1])) := by
  go_enter Tryz.func9, Tryz.ntmps9
  go_wp2_with fail
  refine (rows_nil _ _ _).mono ?_
  rintro e w1 ⟨rfl, hb1⟩
  go_wp2_with fail
  go_ret2
  exact ⟨rfl, hb1⟩
set_option maxHeartbeats 1000000 in
theorem erase_nil (a z : Int) (w : World) : Calls Tryz.prog 15 #[.pointer none, .int .i64 a, .int .i64 z, .int .i64 8] w (Ans w (.int .i64 1)) := by
  go_enter Tryz.func15, Tryz.ntmps15
  go_wp2_with fail
  refine (rows_nil _ _ _).mono ?_
  rintro e w1 ⟨rfl, hb1⟩
  go_wp2_with fail
  go_ret
  exact ⟨rfl, hb1⟩
set_option maxHeartbeats 1000000 in
theorem paste_nil (a : Int) (w : World) : Calls Tryz.prog 16 #[.pointer none, .int .i64 a, .int .i64 8, .slice none 0 0] w (Ans w (.int .i64 1)) := by
  go_enter Tryz.func16, Tryz.ntmps16
  go_wp2_with fail
  refine (column_nil _ _).mono ?_
  rintro e w1 ⟨rfl, hb1⟩
  go_wp2_with fail
  go_ret
  exact ⟨rfl, hb1⟩
end
end Go.Proofs.YtaofcnmajicpcaaGreatDoor
