/- ScrollStarts returns true. -/
import Derived.Test.YtnpamchdflfboaaScH
namespace Go.Proofs.Ytnpamchdflfboaa
open Go.RowKit Go.Shelf
set_option linter.unusedVariables false

set_option maxRecDepth 100000 in
set_option maxHeartbeats 4000000 in
theorem starts_true (x0 x1 x2 x3 x4 x5 x6 x7 x8 : Int) (w : World) :
    Calls Try.prog 3 #[askV x0 x1 x2 x3 x4 x5 x6 x7 x8] w fun e w' => e = .returned (.bool true) ∧ Below w.heap.size w w' := by
  have hB0 : Below w.heap.size w (w.alloc (askC x0 x1 x2 x3 x4 x5 x6 x7 x8)) := below1 w _
  have A0 := askAt_new w x0 x1 x2 x3 x4 x5 x6 x7 x8
  by_cases hg : 100 < x0 ∧ x0 ≤ 100000
  · obtain ⟨hg1, hg2⟩ := hg
    clear A0
    go_enter Try.func3, Try.ntmps3
    go_wp2_with (go_at_call 8; refine (awake_true _).mono ?_; rintro e w1 ⟨rfl, hb1⟩)
    go_ret
    exact ⟨rfl, up2 hB0 hb1⟩
  · have hg' : x0 ≤ 100 ∨ 100000 < x0 := by omega
    clear hg
    rcases hg' with hg1 | hg1
    all_goals
      go_enter Try.func3, Try.ntmps3
      go_wp2_with fail
      refine (Keep_any x0 x1 x2 x3 x4 x5 _).mono ?_
      rintro e w1 ⟨rfl, hb1⟩
      have A1 := A0.kept hb1 (by simp)
      have hB1 := up2 hB0 hb1
      have hz1 : w.heap.size < w1.heap.size := by have := hb1.size; simp at this; omega
      clear A0 hB0 hb1
      have A1' := A1
      obtain ⟨a0, a1, a2, a3, a4, a5, a6, a7, a8⟩ := A1'
      go_wp2_with fail
      refine (KeepR_any x0 x1 x2 x3 x4 x5 w1).mono ?_
      rintro e w1' ⟨rfl, rfl⟩
      go_wp2_with fail
      refine (Center_any x0 x1 x3 x8 w1).mono ?_
      rintro e w2 ⟨rfl, hb2⟩
      clear a0 a1 a2 a3 a4 a5 a6 a7 a8
      have A2 := A1.kept hb2 hz1
      have hB2 := up2 hB1 hb2
      have hz2 := Nat.lt_of_lt_of_le hz1 hb2.size
      clear A1 hB1 hb2 hz1
      have A2' := A2
      obtain ⟨a0, a1, a2, a3, a4, a5, a6, a7, a8⟩ := A2'
      go_wp2_with fail
      refine (CenterR_any x0 x1 x3 x8 w2).mono ?_
      rintro e w2' ⟨rfl, rfl⟩
      go_wp2_with fail
      clear a0 a1 a2 a3 a4 a5 a6 a7 a8
      have C0 : ∀ x : UpW w2.heap.size w2, x.w.cell? ⟨w.heap.size, 0, none⟩ = some (.int .i64 x0) := fun x => (x.up.cell (p := ⟨w.heap.size, 0, none⟩) hz2).trans A2.1
      have C1 : ∀ x : UpW w2.heap.size w2, x.w.cell? ⟨w.heap.size, 1, none⟩ = some (.int .i64 x1) := fun x => (x.up.cell (p := ⟨w.heap.size, 1, none⟩) hz2).trans A2.2.1
      have C2 : ∀ x : UpW w2.heap.size w2, x.w.cell? ⟨w.heap.size, 2, none⟩ = some (.int .i64 x2) := fun x => (x.up.cell (p := ⟨w.heap.size, 2, none⟩) hz2).trans A2.2.2.1
      have C3 : ∀ x : UpW w2.heap.size w2, x.w.cell? ⟨w.heap.size, 3, none⟩ = some (.int .i64 x3) := fun x => (x.up.cell (p := ⟨w.heap.size, 3, none⟩) hz2).trans A2.2.2.2.1
      have C4 : ∀ x : UpW w2.heap.size w2, x.w.cell? ⟨w.heap.size, 4, none⟩ = some (.int .i64 x4) := fun x => (x.up.cell (p := ⟨w.heap.size, 4, none⟩) hz2).trans A2.2.2.2.2.1
      refine wp_region_up w2.heap.size (by kernel_rfl) (by kernel_rfl) ?_
      repeat (go_big_quiet_step ((first | (go_at_call 13; exact Calls.up _ (Nat.le_refl _) (Well_any x0 x1 x2 x3 x4 _)) | (go_at_call 14; exact Calls.up_same _ (WellR_any x0 x1 x2 x3 x4 _)))))
      refine wpQuiet_nil ?_
      rintro ⟨w3, hb3⟩
      dsimp only
      clear C0 C1 C2 C3 C4
      have A3 := A2.kept hb3 hz2
      have hB3 := up2 hB2 hb3
      have hz3 := Nat.lt_of_lt_of_le hz2 hb3.size
      clear A2 hB2 hb3 hz2
      have A3' := A3
      obtain ⟨a0, a1, a2, a3, a4, a5, a6, a7, a8⟩ := A3'
      go_wp2_with fail
      refine (Page_any x0 x1 x2 x6 x7 w3).mono ?_
      rintro e w4 ⟨rfl, hb4⟩
      clear a0 a1 a2 a3 a4 a5 a6 a7 a8
      have A4 := A3.kept hb4 hz3
      have hB4 := up2 hB3 hb4
      have hz4 := Nat.lt_of_lt_of_le hz3 hb4.size
      clear A3 hB3 hb4 hz3
      obtain ⟨a0, a1, a2, a3, a4, a5, a6, a7, a8⟩ := A4
      go_wp2_with fail
      refine (PageR_any x0 x1 x2 x6 x7 w4).mono ?_
      rintro e w4' ⟨rfl, rfl⟩
      go_wp2_with fail
      refine (awake_true w4).mono ?_
      rintro e w5 ⟨rfl, hb5⟩
      go_wp2
      go_ret
      exact ⟨ret_bool (by simp), up2 hB4 hb5⟩
end Go.Proofs.Ytnpamchdflfboaa
