/- ScrollBack returns true. -/
import Derived.Test.YtnpamchdflfboaaScJ
namespace Go.Proofs.Ytnpamchdflfboaa
open Go.RowKit Go.Shelf
set_option linter.unusedVariables false

theorem AskAt.ups {b : Nat} {w0 : World} {x0 x1 x2 x3 x4 x5 x6 x7 x8 : Int} (h : AskAt b w0 x0 x1 x2 x3 x4 x5 x6 x7 x8) (hb : b < w0.heap.size) (x : UpW w0.heap.size w0) : AskAt b x.w x0 x1 x2 x3 x4 x5 x6 x7 x8 := h.kept x.up hb

set_option maxRecDepth 100000 in
set_option maxHeartbeats 4000000 in
theorem back_true (x0 x1 x2 x3 x4 x5 x6 x7 x8 : Int) (w : World) :
    Calls Try.prog 6 #[askV x0 x1 x2 x3 x4 x5 x6 x7 x8] w fun e w' => e = .returned (.bool true) ∧ Below w.heap.size w w' := by
  have hB0 : Below w.heap.size w (w.alloc (askC x0 x1 x2 x3 x4 x5 x6 x7 x8)) := below1 w _
  have A0 := askAt_new w x0 x1 x2 x3 x4 x5 x6 x7 x8
  have p0 := pick_pos x0 100 (by omega)
  have p1 := pick_pos x1 40 (by omega)
  have p2 := pick_pos x2 (1 + pickI x0 100) (by omega)
  have p3 := pick_pos x6 10 (by omega)
  have p4 := pick_pos x3 (1 + pickI x0 100) (by omega)
  have p5 := pick_pos x8 (1 + pickI x1 40) (by omega)
  obtain ⟨p0, p0'⟩ := p0
  obtain ⟨p1, p1'⟩ := p1
  obtain ⟨p2, p2'⟩ := p2
  obtain ⟨p3, p3'⟩ := p3
  obtain ⟨p4, p4'⟩ := p4
  obtain ⟨p5, p5'⟩ := p5
  go_enter Try.func6, Try.ntmps6
  go_wp2_with fail
  refine (known_true _).mono ?_
  rintro e w1 ⟨rfl, hb1⟩
  have A1 := A0.kept hb1 (by simp)
  have hB1 := up2 hB0 hb1
  have hz1 : w.heap.size < w1.heap.size := by have := hb1.size; simp at this; omega
  clear A0 hB0 hb1
  go_wp2_with fail
  have C0 := fun x => (A1.ups hz1 x).1
  have C1 := fun x => (A1.ups hz1 x).2.1
  have wr0 : IntKind.i64.wrap (1 + pickI x0 100) = 1 + pickI x0 100 := IntWalk.i64_in _ (by omega)
  have wr1 : IntKind.i64.wrap (1 + pickI x1 40) = 1 + pickI x1 40 := IntWalk.i64_in _ (by omega)
  refine wp_region_up w1.heap.size (by kernel_rfl) (by kernel_rfl) ?_
  repeat (go_big_quiet_step ((go_at_call 20; exact Calls.up_same _ (pick_any _ _ _ (by omega) (by omega)))))
  refine wpQuiet_nil ?_
  rintro ⟨w2, hb2⟩
  dsimp only
  clear C0 C1 wr0 wr1
  have A2 := A1.kept hb2 hz1
  have hB2 := up2 hB1 hb2
  have hz2 := Nat.lt_of_lt_of_le hz1 hb2.size
  clear A1 hB1 hb2 hz1
  generalize hrows : 1 + pickI x0 100 = rows at *
  generalize hheight : 1 + pickI x1 40 = height at *
  have q1 : 1 ≤ rows := by omega
  have q2 : rows ≤ 100000 := by omega
  have q3 : 1 ≤ height := by omega
  have q4 : height ≤ 40 := by omega
  clear hrows hheight p0 p0' p1 p1'
  go_wp2_with fail
  have C0 := fun x => (A2.ups hz2 x).2.2.1
  have C1 := fun x => (A2.ups hz2 x).2.2.2.2.2.2.1
  refine wp_region_up w2.heap.size (by kernel_rfl) (by kernel_rfl) ?_
  repeat (go_big_quiet_step ((go_at_call 20; exact Calls.up_same _ (pick_any _ _ _ (by omega) (by omega)))))
  refine wpQuiet_nil ?_
  rintro ⟨w3, hb3⟩
  dsimp only
  clear C0 C1
  have A3 := A2.kept hb3 hz2
  have hB3 := up2 hB2 hb3
  have hz3 := Nat.lt_of_lt_of_le hz2 hb3.size
  clear A2 hB2 hb3 hz2
  generalize pickI x2 rows = start at *
  generalize pickI x6 10 = n at *
  have hv : validI rows height = true := by simp [validI]; omega
  obtain ⟨g1, g2, g3, g4⟩ := page_fwd (overlap := x7) q1 q3 (by omega) p2 p2' p3 (by omega)
  have A3' := A3
  obtain ⟨a0, a1, a2, a3, a4, a5, a6, a7, a8⟩ := A3'
  have G3 := Lib.hid g3
  have G4 := Lib.hid g4
  clear g3 g4
  go_wp2_with fail
  refine (Page_yes rows height start n x7 w3 hv).mono ?_
  rintro e w4 ⟨rfl, hb4⟩
  rw [G3.out]
  generalize hs : pageN rows height start n x7 = s at *
  clear hs
  clear a0 a1 a2 a3 a4 a5 a6 a7 a8
  have A4 := A3.kept hb4 hz3
  have hB4 := up2 hB3 hb4
  have hz4 := Nat.lt_of_lt_of_le hz3 hb4.size
  clear A3 hB3 hb4 hz3
  have A4' := A4
  obtain ⟨a0, a1, a2, a3, a4, a5, a6, a7, a8⟩ := A4'
  go_wp2_with fail
  refine (Page_yes rows height s (-n) x7 w4 hv).mono ?_
  rintro e w5 ⟨rfl, hb5⟩
  obtain ⟨t, ht⟩ : ∃ t, pageN rows height s (-n) x7 = t := ⟨_, rfl⟩
  have G5 : s < rows - 1 → t = start := fun h => by rw [← ht]; exact G4.out h
  rw [ht]
  generalize (t != clampI s 0 (rows - 1)) = moved
  clear ht G4
  clear a0 a1 a2 a3 a4 a5 a6 a7 a8
  have A5 := A4.kept hb5 hz4
  have hB5 := up2 hB4 hb5
  have hz5 := Nat.lt_of_lt_of_le hz4 hb5.size
  clear A4 hB4 hb5 hz4
  have H5 := Lib.hid G5
  clear G5
  by_cases hsr : s < rows - 1
  · obtain rfl : t = start := H5.out hsr
    clear H5
    go_wp2_with fail
    have C0 := fun x => (A5.ups hz5 x).2.2.2.1
    have C1 := fun x => (A5.ups hz5 x).2.2.2.2.2.2.2.2
    refine wp_region_up w5.heap.size (by kernel_rfl) (by kernel_rfl) ?_
    repeat (go_big_quiet_step ((go_at_call 20; exact Calls.up_same _ (pick_any _ _ _ (by omega) (by omega)))))
    refine wpQuiet_nil ?_
    rintro ⟨w6, hb6⟩
    dsimp only
    clear C0 C1 A5
    have hB6 := up2 hB5 hb6
    clear hB5 hb6 hz5
    generalize pickI x3 rows = row at *
    generalize pickI x8 height = line at *
    obtain ⟨m1, m2, m3, m4⟩ := center_line q1 q3 (by omega) p4 p4' p5 p5'
    have hok : centerOk rows height row = true := by simp [centerOk, hv, hasI]; omega
    have M1 := Lib.hid m1
    clear m1
    go_wp2_with fail
    refine (Center_yes rows height row line w6 hok).mono ?_
    rintro e w7 ⟨rfl, hb7⟩
    go_wp2_with fail
    refine (Center_yes rows height row (line - height) w7 hok).mono ?_
    rintro e w8 ⟨rfl, hb8⟩
    rw [M1.out]
    generalize centerN rows height row line = c at *
    rcases m4 with ⟨m5, rfl⟩ | m5
    all_goals
      go_wp2
      all_goals (go_ret; exact ⟨ret_bool (by simp <;> omega), up2 (up2 hB6 hb7) hb8⟩)
  · clear H5
    go_wp2_with fail
    have C0 := fun x => (A5.ups hz5 x).2.2.2.1
    have C1 := fun x => (A5.ups hz5 x).2.2.2.2.2.2.2.2
    refine wp_region_up w5.heap.size (by kernel_rfl) (by kernel_rfl) ?_
    repeat (go_big_quiet_step ((go_at_call 20; exact Calls.up_same _ (pick_any _ _ _ (by omega) (by omega)))))
    refine wpQuiet_nil ?_
    rintro ⟨w6, hb6⟩
    dsimp only
    clear C0 C1 A5
    have hB6 := up2 hB5 hb6
    clear hB5 hb6 hz5
    generalize pickI x3 rows = row at *
    generalize pickI x8 height = line at *
    obtain ⟨m1, m2, m3, m4⟩ := center_line q1 q3 (by omega) p4 p4' p5 p5'
    have hok : centerOk rows height row = true := by simp [centerOk, hv, hasI]; omega
    have M1 := Lib.hid m1
    clear m1
    go_wp2_with fail
    refine (Center_yes rows height row line w6 hok).mono ?_
    rintro e w7 ⟨rfl, hb7⟩
    go_wp2_with fail
    refine (Center_yes rows height row (line - height) w7 hok).mono ?_
    rintro e w8 ⟨rfl, hb8⟩
    rw [M1.out]
    generalize centerN rows height row line = c at *
    rcases m4 with ⟨m5, rfl⟩ | m5
    all_goals
      go_wp2
      all_goals (go_ret; exact ⟨ret_bool (by simp <;> omega), up2 (up2 hB6 hb7) hb8⟩)
end Go.Proofs.Ytnpamchdflfboaa
