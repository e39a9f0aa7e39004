/- ScrollKeeps returns true. -/
import Derived.Test.YtnpamchdflfboaaScK
namespace Go.Proofs.Ytnpamchdflfboaa
open Go.RowKit Go.Shelf
set_option linter.unusedVariables false

set_option maxRecDepth 100000 in
set_option maxHeartbeats 4000000 in
theorem keeps_law (x0 x1 x2 x3 x4 x5 x6 x7 x8 : Int) (w : World) :
    Calls Try.prog 5 #[askV x0 x1 x2 x3 x4 x5 x6 x7 x8] w fun e w' => e = .returned (.bool true) ∧ Below w.heap.size w w' := by
  have hB0 : Below w.heap.size w (w.alloc (askC x0 x1 x2 x3 x4 x5 x6 x7 x8)) := below1 w _
  have A0 := askAt_new w x0 x1 x2 x3 x4 x5 x6 x7 x8
  obtain ⟨p0, p0'⟩ := pick_pos x0 100 (by omega)
  obtain ⟨p1, p1'⟩ := pick_pos x1 40 (by omega)
  obtain ⟨p2, p2'⟩ := pick_pos x5 30 (by omega)
  obtain ⟨p3, p3'⟩ := pick_pos x3 (1 + pickI x0 100) (by omega)
  obtain ⟨p4, p4'⟩ := pick_pos x4 30 (by omega)
  go_enter Try.func5, Try.ntmps5
  go_wp2_with fail
  refine (known_true _).mono ?_
  rintro e w1 ⟨rfl, hb1⟩
  have A1 := A0.kept hb1 (by simp)
  have hB1 := up2 hB0 hb1
  have hz1 : w.heap.size < w1.heap.size := by have := hb1.size; simp at this; omega
  clear A0 hB0 hb1
  go_wp2_with fail
  have C0 := fun x => (A1.ups hz1 x).1
  have C1 := fun x => (A1.ups hz1 x).2.1
  have C2 := fun x => (A1.ups hz1 x).2.2.2.2.2.1
  have wr0 : IntKind.i64.wrap (1 + pickI x0 100) = 1 + pickI x0 100 := IntWalk.i64_in _ (by omega)
  have wr1 : IntKind.i64.wrap (1 + pickI x1 40) = 1 + pickI x1 40 := IntWalk.i64_in _ (by omega)
  have wr2 : IntKind.i64.wrap (1 + pickI x5 30) = 1 + pickI x5 30 := IntWalk.i64_in _ (by omega)
  refine wp_region_up w1.heap.size (by kernel_rfl) (by kernel_rfl) ?_
  repeat (go_big_quiet_step ((go_at_call 20; exact Calls.up_same _ (pick_any _ _ _ (by omega) (by omega)))))
  refine wpQuiet_nil ?_
  rintro ⟨w2, hb2⟩
  dsimp only
  clear C0 C1 C2 wr0 wr1 wr2
  have A2 := A1.kept hb2 hz1
  have hB2 := up2 hB1 hb2
  have hz2 := Nat.lt_of_lt_of_le hz1 hb2.size
  clear A1 hB1 hb2 hz1
  generalize hrows : 1 + pickI x0 100 = rows at *
  generalize hheight : 1 + pickI x1 40 = height at *
  generalize hstep : 1 + pickI x5 30 = step at *
  have q1 : 1 ≤ rows := by omega
  have q2 : rows ≤ 100 := by omega
  have q3 : 1 ≤ height := by omega
  have q4 : height ≤ 40 := by omega
  have q5 : 1 ≤ step := by omega
  have q6 : step ≤ 30 := by omega
  clear hrows hheight hstep p0 p0' p1 p1' p2 p2'
  go_wp2_with fail
  have C0 := fun x => (A2.ups hz2 x).2.2.2.1
  have C1 := fun x => (A2.ups hz2 x).2.2.2.2.1
  have wr0 : IntKind.i64.wrap (pickI x4 30 - 3) = pickI x4 30 - 3 := IntWalk.i64_in _ (by omega)
  refine wp_region_up w2.heap.size (by kernel_rfl) (by kernel_rfl) ?_
  repeat (go_big_quiet_step ((go_at_call 20; exact Calls.up_same _ (pick_any _ _ _ (by omega) (by omega)))))
  refine wpQuiet_nil ?_
  rintro ⟨w3, hb3⟩
  dsimp only
  clear C0 C1 wr0
  have A3 := A2.kept hb3 hz2
  have hB3 := up2 hB2 hb3
  clear A2 hB2 hb3 hz2
  generalize pickI x3 rows = row at *
  generalize pickI x4 30 - 3 = margin at *
  clear p4 p4'
  have hv : validI rows height = true := by simp [validI]; omega
  have hok : ∀ r, 0 ≤ r → r < rows → keepOk rows height r step = true := fun r h h' => by simp [keepOk, hv, hasI]; omega
  have HOK := Lib.hid hok
  clear hok
  obtain ⟨g1, g2, g3, g4⟩ := keepN_vis rows height x2 row margin step q3 p3 p3'
  obtain ⟨a0, a1, a2, a3, a4, a5, a6, a7, a8⟩ := A3
  go_wp2_with fail
  refine (keep_yes rows height x2 row margin step w3 (HOK.out row p3 p3')).mono ?_
  rintro e w4 ⟨rfl, hb4⟩
  generalize keepN rows height x2 row margin step = s at *
  clear a0 a1 a2 a3 a4 a5 a6 a7 a8
  have hB4 := up2 hB3 hb4
  clear hB3 hb4
  have hW : wellW rows height s row margin = wellI rows height row margin s := by simp [wellW, hv, hasI, p3, p3', g1, g2]
  have HW := Lib.hid hW
  clear hW
  have kz : wellI rows height row margin s = true → keepN rows height s row margin step = s := keepN_zero g1 g2 q5
  have ko : ∀ d, d = -1 ∨ d = 1 → 0 ≤ row + d → row + d < rows → wellI rows height row margin s = true → s - 1 ≤ keepN rows height s (row + d) margin step ∧ keepN rows height s (row + d) margin step ≤ s + 1 :=
    fun d hd hr hr' hw => keepN_one g1 g2 (by omega) q5 (well_step q3 g1 g2 hd hr hr' hw)
  have KZ := Lib.hid kz
  have KO := Lib.hid ko
  clear kz ko
  go_wp2_with fail
  refine (Well_any rows height s row margin w4).mono ?_
  rintro e w5 ⟨rfl, hb5⟩
  rw [HW.out]
  have hB5 := up2 hB4 hb5
  clear hB4 hb5
  go_wp2_with fail
  refine (keep_yes rows height s row margin step w5 (HOK.out row p3 p3')).mono ?_
  rintro e w6 ⟨rfl, hb6⟩
  have hB6 := up2 hB5 hb6
  clear hB5 hb6
  by_cases hw : wellI rows height row margin s = true
  · rw [KZ.out hw]
    have KO' := Lib.hid (fun d hd hr hr' => KO.out d hd hr hr' hw)
    clear KO KZ
    rw [hw]
    go_wp2_with fail
    go_loopw [14] (fun d wr => (d = .int .i64 (-1) ∨ d = .int .i64 1 ∨ d = .int .i64 3) ∧ Below w.heap.size w wr) (fun d _ => (3 - intOf d).toNat)
    case atStart => exact ⟨.inl rfl, hB6⟩
    case round =>
      obtain ⟨hd, hBr⟩ := hrel
      rcases hd with rfl | rfl | rfl
      · by_cases hr : 0 ≤ row + -1
        · obtain ⟨k1, k2⟩ := KO'.out (-1) (.inl rfl) (by omega) (by omega)
          go_wp2_with fail
          refine (keep_yes rows height s (row + -1) margin step wr (HOK.out _ (by omega) (by omega))).mono ?_
          rintro e w7 ⟨rfl, hb7⟩
          generalize keepN rows height s (row + -1) margin step = t at *
          go_wp2
          go_roundw
          case rel => exact ⟨.inr (.inl rfl), up2 hBr hb7⟩
          case measure => simp [intOf]
        · have hr' : row + -1 < 0 := by omega
          clear hr
          go_wp2
          go_roundw
          case rel => exact ⟨.inr (.inl rfl), hBr⟩
          case measure => simp [intOf]
      · by_cases hr : row + 1 < rows
        · obtain ⟨k1, k2⟩ := KO'.out (1) (.inr rfl) (by omega) (by omega)
          go_wp2_with fail
          refine (keep_yes rows height s (row + 1) margin step wr (HOK.out _ (by omega) (by omega))).mono ?_
          rintro e w7 ⟨rfl, hb7⟩
          generalize keepN rows height s (row + 1) margin step = t at *
          go_wp2
          go_roundw
          case rel => exact ⟨.inr (.inr rfl), up2 hBr hb7⟩
          case measure => simp [intOf]
        · have hr' : rows ≤ row + 1 := by omega
          clear hr
          go_wp2
          go_roundw
          case rel => exact ⟨.inr (.inr rfl), hBr⟩
          case measure => simp [intOf]
      · go_wp2
        go_ret
        exact ⟨rfl, hBr⟩
  · have hw' : wellI rows height row margin s = false := by simpa using hw
    clear hw KO KZ
    rw [hw']
    go_wp2_with fail
    go_loopw [14] (fun d wr => (d = .int .i64 (-1) ∨ d = .int .i64 1 ∨ d = .int .i64 3) ∧ Below w.heap.size w wr) (fun d _ => (3 - intOf d).toNat)
    case atStart => exact ⟨.inl rfl, hB6⟩
    case round =>
      obtain ⟨hd, hBr⟩ := hrel
      rcases hd with rfl | rfl | rfl
      · go_wp2
        go_roundw
        case rel => exact ⟨.inr (.inl rfl), hBr⟩
        case measure => simp [intOf]
      · go_wp2
        go_roundw
        case rel => exact ⟨.inr (.inr rfl), hBr⟩
        case measure => simp [intOf]
      · go_wp2
        go_ret
        exact ⟨rfl, hBr⟩
end Go.Proofs.Ytnpamchdflfboaa
