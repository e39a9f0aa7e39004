/- package column: the functions without a buffer. -/
import Derived.Test.YtklaeecegkpgmaaGreatDoorCnA
import Derived.Test.YtklaeecegkpgmaaGreatDoorLwB
namespace Go.Proofs.YtklaeecegkpgmaaGreatDoor
open Go.RowKit
set_option linter.unusedVariables false
set_option linter.unusedSimpArgs false
section
variable {w w' : World}
abbrev vw0 : Value := .agg #[.pointer none, .int .i64 0, .int .i64 0, .int .i64 0]
set_option maxHeartbeats 1000000 in
theorem look_nil (tab : Int) (right : Bool) (v : Value) (w : World) : Calls Tryz.prog 17 #[.pointer none, .int .i64 tab, .bool right, v] w fun e w' => e = .returned (.tuple #[vw0, .int .i64 1]) ∧ Below w.heap.size w w' := by
  go_enter Tryz.func17, Tryz.ntmps17
  go_wp2_with fail
  exact bodyPost_ret (v := .tuple #[vw0, .int .i64 1]) (by simp [results, Tryz.results17, go_sem]) rfl ⟨rfl, below1 w _⟩
theorem tabbed_any (tab : Int) (w : World) : Calls Tryz.prog 20 #[.int .i64 tab] w fun e w' => ∃ b, e = .returned (.bool b) ∧ w = w' := by
  by_cases h : tab < 1 ∨ 64 < tab
  · exact (tabbed_no tab h w).mono fun e w' ⟨he, hw⟩ => ⟨_, he, hw⟩
  · obtain ⟨t, rfl⟩ : ∃ t : Nat, tab = t := ⟨tab.toNat, by omega⟩
    exact (tabbed_ok t (by omega) (by omega) w).mono fun e w' ⟨he, hw⟩ => ⟨_, he, hw⟩
set_option maxHeartbeats 1000000 in
theorem begin_nil (k : Int) (w : World) : Calls Tryz.prog 5 #[.pointer none, .int .i64 k] w fun e w' => e = .returned (.tuple #[.int .i64 0, .int .i64 1]) ∧ Below w.heap.size w w' := by
  go_enter Tryz.func5, Tryz.ntmps5
  go_wp2_with fail
  refine (look_nil _ _ _ _).mono ?_
  rintro e w1 ⟨rfl, hb1⟩
  have B1 := Lib.hid (up2 (below1 _ _) hb1)
  clear hb1
  go_wp2_with fail
  go_ret2
  exact ⟨rfl, up2 B1.out (below1 _ _)⟩
set_option maxHeartbeats 1000000 in
theorem end_nil (k : Int) (w : World) : Calls Tryz.prog 6 #[.pointer none, .int .i64 k] w fun e w' => e = .returned (.tuple #[.int .i64 0, .int .i64 1]) ∧ Below w.heap.size w w' := by
  go_enter Tryz.func6, Tryz.ntmps6
  go_wp2_with fail
  refine (look_nil _ _ _ _).mono ?_
  rintro e w1 ⟨rfl, hb1⟩
  have B1 := Lib.hid (up2 (below1 _ _) hb1)
  clear hb1
  go_wp2_with fail
  go_ret2
  exact ⟨rfl, up2 B1.out (below1 _ _)⟩
set_option maxHeartbeats 1000000 in
theorem column_nil (k tab : Int) (w : World) : Calls Tryz.prog 7 #[.pointer none, .int .i64 k, .int .i64 tab] w fun e w' => e = .returned (.tuple #[.int .i64 0, .int .i64 1]) ∧ Below w.heap.size w w' := by
  go_enter Tryz.func7, Tryz.ntmps7
  go_wp2_with fail
  refine (tabbed_any tab _).mono ?_
  rintro e w1 ⟨b, rfl, rfl⟩
  go_wp2_with fail
  refine (look_nil _ _ _ _).mono ?_
  rintro e w1 ⟨rfl, hb1⟩
  have B1 := Lib.hid (up2 (below1 _ _) hb1)
  clear hb1
  go_wp2_with fail
  go_ret2
  exact ⟨rfl, up2 B1.out (below1 _ _)⟩
set_option maxHeartbeats 1000000 in
theorem lines_nil (k n : Int) (w : World) : Calls Tryz.prog 9 #[.pointer none, .int .i64 k, .int .i64 n] w fun e w' => e = .returned (.tuple #[.int .i64 0, .int .i64 0, .int .i64 1]) ∧ Below w.heap.size w w' := by
  go_enter Tryz.func9, Tryz.ntmps9
  go_wp2_with fail
  refine (look_nil _ _ _ _).mono ?_
  rintro e w1 ⟨rfl, hb1⟩
  have B1 := Lib.hid (up2 (below1 _ _) hb1)
  clear hb1
  go_wp2_with fail
  go_ret3
  exact ⟨rfl, up2 B1.out (below1 _ _)⟩
set_option maxHeartbeats 1000000 in
theorem indent_nil (k tab : Int) (w : World) : Calls Tryz.prog 11 #[.pointer none, .int .i64 k, .int .i64 tab] w fun e w' => e = .returned (.tuple #[.int .i64 0, .int .i64 0, .int .i64 1]) ∧ Below w.heap.size w w' := by
  go_enter Tryz.func11, Tryz.ntmps11
  go_wp2_with fail
  refine (tabbed_any tab _).mono ?_
  rintro e w1 ⟨b, rfl, rfl⟩
  go_wp2_with fail
  refine (look_nil _ _ _ _).mono ?_
  rintro e w1 ⟨rfl, hb1⟩
  have B1 := Lib.hid (up2 (below1 _ _) hb1)
  clear hb1
  go_wp2_with fail
  go_ret3
  exact ⟨rfl, up2 B1.out (below1 _ _)⟩
set_option maxHeartbeats 1000000 in
theorem seek_nil (k col tab : Int) (w : World) : Calls Tryz.prog 8 #[.pointer none, .int .i64 k, .int .i64 col, .int .i64 tab] w fun e w' => e = .returned (.tuple #[.int .i64 0, .int .i64 0, .int .i64 1]) ∧ Below w.heap.size w w' := by
  cases hq : decide ((0 : Int) ≤ col)
  all_goals
    go_enter Tryz.func8, Tryz.ntmps8
    go_wp2_with fail
    refine (tabbed_any tab _).mono ?_
    rintro e w1 ⟨b, rfl, rfl⟩
    cases b
    all_goals
      go_wp2_with fail
      refine (look_nil _ _ _ _).mono ?_
      rintro e w1 ⟨rfl, hb1⟩
      have B1 := Lib.hid (up2 (below1 _ _) hb1)
      clear hb1
      go_wp2_with fail
      go_ret3
      exact ⟨rfl, up2 B1.out (below1 _ _)⟩
set_option maxHeartbeats 1000000 in
theorem move_nil (k n col tab : Int) (w : World) : Calls Tryz.prog 10 #[.pointer none, .int .i64 k, .int .i64 n, .int .i64 col, .int .i64 tab] w fun e w' => e = .returned (.tuple #[.int .i64 0, .int .i64 0, .int .i64 1]) ∧ Below w.heap.size w w' := by
  cases hq : decide ((0 : Int) ≤ col)
  all_goals
    go_enter Tryz.func10, Tryz.ntmps10
    go_wp2_with fail
    refine (tabbed_any tab _).mono ?_
    rintro e w1 ⟨b, rfl, rfl⟩
    cases b
    all_goals
      go_wp2_with fail
      refine (look_nil _ _ _ _).mono ?_
      rintro e w1 ⟨rfl, hb1⟩
      have B1 := Lib.hid (up2 (below1 _ _) hb1)
      clear hb1
      go_wp2_with fail
      go_ret3
      exact ⟨rfl, up2 B1.out (below1 _ _)⟩
set_option maxHeartbeats 1000000 in
theorem lisp_nil {tb bs ms mo : Nat} (h : LspT w tb bs ms mo) (k tab : Int) : Calls Tryz.prog 12 #[.pointer none, pAt tb, .int .i64 k, .int .i64 tab] w fun e w' => e = .returned (.tuple #[.int .i64 0, .int .i64 1]) ∧ Below w.heap.size w w' := by
  have HC := Lib.hid (tcopy_ok h)
  clear h
  go_enter Tryz.func12, Tryz.ntmps12
  go_wp2_with fail
  refine HC.out.mono ?_
  rintro e w1 ⟨j, rfl, hb1⟩
  have B1 := Lib.hid hb1
  clear hb1 HC
  go_wp2_with fail
  refine (tabbed_any tab _).mono ?_
  rintro e w2 ⟨b, rfl, rfl⟩
  go_wp2_with fail
  refine (look_nil _ _ _ _).mono ?_
  rintro e w2 ⟨rfl, hb2⟩
  have B2 := Lib.hid (up2 B1.out (up2 (below1 _ _) hb2))
  clear hb2 B1
  go_wp2_with fail
  go_ret2
  exact ⟨rfl, up2 B2.out (below1 _ _)⟩
set_option maxHeartbeats 1000000 in
theorem setIndent_nil (k col tab : Int) (tabs : Bool) (w : World) : Calls Tryz.prog 14 #[.pointer none, .int .i64 k, .int .i64 col, .int .i64 tab, .bool tabs] w fun e w' => e = .returned (.int .i64 1) ∧ Below w.heap.size w w' := by
  go_enter Tryz.func14, Tryz.ntmps14
  go_wp2_with fail
  refine (itext_any col tab tabs w).mono ?_
  rintro e w1 ⟨s, x, rfl, hb1⟩
  have B1 := Lib.hid hb1
  clear hb1
  go_wp2_with fail
  refine (look_nil _ _ _ _).mono ?_
  rintro e w2 ⟨rfl, hb2⟩
  have B2 := Lib.hid (up2 B1.out (up2 (below1 _ _) hb2))
  clear hb2 B1
  go_wp2_with fail
  go_ret
  exact ⟨rfl, up2 B2.out (below1 _ _)⟩
set_option maxHeartbeats 2000000 in
theorem fill_nil (k to_ col tab : Int) (w : World) : Calls Tryz.prog 15 #[.pointer none, .int .i64 k, .int .i64 to_, .int .i64 col, .int .i64 tab] w fun e w' => e = .returned (.int .i64 1) ∧ Below w.heap.size w w' := by
  cases hq : decide ((1 : Int) ≤ col) <;> cases hq2 : decide (col ≤ (1000 : Int))
  all_goals
    go_enter Tryz.func15, Tryz.ntmps15
    go_wp2_with fail
    try (refine (tabbed_any tab _).mono ?_; rintro e w1 ⟨b, rfl, rfl⟩; go_wp2_with fail)
    refine (look_nil _ _ _ _).mono ?_
    rintro e w2 ⟨rfl, hb2⟩
    have B2 := Lib.hid (up2 (below1 _ _) hb2)
    clear hb2
    go_wp2_with fail
    go_ret
    exact ⟨rfl, up2 B2.out (below1 _ _)⟩
end
end Go.Proofs.YtklaeecegkpgmaaGreatDoor
