/- copyistkit.Pick; the plain laws of Keep, Page, Center. -/
import Derived.Test.YtnpamchdflfboaaScI
namespace Go.Proofs.Ytnpamchdflfboaa
open Go.RowKit Go.Shelf
set_option linter.unusedVariables false

set_option maxHeartbeats 400000 in
theorem pick_any (n most : Int) (w : World) (h1 : 0 < most) (h2 : most ≤ 1000000) :
    Calls Try.prog 20 #[.int .i64 n, .int .i64 most] w fun e w' => e = .returned (.int .i64 (pickI n most)) ∧ w = w' := by
  have e1 : pickI n most = if n.tmod most < 0 then n.tmod most + most else n.tmod most := by
    unfold pickI
    rw [if_neg (by omega), Int.emod_eq_tmod]
    have hn : (most.natAbs : Int) = most := by omega
    by_cases h0 : 0 ≤ n
    · have := Int.tmod_nonneg most h0
      rw [if_pos (.inl h0), if_neg (by omega)]; omega
    · have hle : n.tmod most ≤ 0 := by
        have := Int.tmod_nonneg most (a := -n) (by omega)
        rw [Int.neg_tmod] at this; omega
      by_cases hd : most ∣ n
      · have := Int.tmod_eq_zero_of_dvd hd
        rw [if_pos (.inr hd), this]; simp
      · have hne : n.tmod most ≠ 0 := fun h => hd (Int.dvd_of_tmod_eq_zero h)
        rw [if_neg (by simp [hd]; omega), if_pos (by omega), hn]
  have b1 : -most < n.tmod most := by have := Int.lt_tmod_of_pos n h1; omega
  have b2 : n.tmod most < most := Int.tmod_lt_of_pos n h1
  have H1 := Lib.hid e1
  clear e1
  have hz : ¬ most = 0 := by omega
  by_cases hneg : n.tmod most < 0
  all_goals
    go_enter Try.func20, Try.ntmps20
    go_wp2
    go_ret
    exact ⟨ret_int (by rw [H1.out]; first | rw [if_pos (by omega)] | rw [if_neg (by omega)]), rfl⟩

/-! ### Keep -/
theorem keepN_zero {rows height s row margin step : Int} (h0 : 0 ≤ s) (h1 : s < rows) (hst : 1 ≤ step) (hw : wellI rows height row margin s = true) : keepN rows height s row margin step = s := by
  have hs : clampI s 0 (rows - 1) = s := by unfold clampI; omega
  have := keepN_A (height := height) (row := row) (margin := margin) (step := step) (k := 0) hs (noneTo_zero _ _ _ _ _) (by unfold tries; omega) (by omega) (by omega) (by simpa using hw)
  simpa using this
theorem keepN_one {rows height s row margin step : Int} (h0 : 0 ≤ s) (h1 : s < rows) (h2 : 2 ≤ rows) (hst : 1 ≤ step)
    (hw : wellI rows height row margin s = true ∨ (0 ≤ s - 1 ∧ wellI rows height row margin (s - 1) = true) ∨ (s + 1 < rows ∧ wellI rows height row margin (s + 1) = true)) :
    s - 1 ≤ keepN rows height s row margin step ∧ keepN rows height s row margin step ≤ s + 1 := by
  have hs : clampI s 0 (rows - 1) = s := by unfold clampI; omega
  by_cases w0 : wellI rows height row margin s = true
  · rw [keepN_zero h0 h1 hst w0]; omega
  · have w0' : wellI rows height row margin s = false := by simpa using w0
    have n1 : noneTo rows height row margin s 1 := noneTo_succ (noneTo_zero _ _ _ _ _) (fun _ => by simpa using w0') (fun _ => by simpa using w0')
    by_cases w1 : 0 ≤ s - 1 ∧ wellI rows height row margin (s - 1) = true
    · rw [keepN_A hs n1 (by unfold tries; omega) (by omega) (by omega) (by simpa using w1.2)]; simp
      omega
    · rcases hw with hw | hw | hw
      · exact absurd hw w0
      · exact absurd hw w1
      · rw [keepN_B hs h0 n1 (by unfold tries; omega) (fun h => by
          simp at h
          have := fun hh => w1 ⟨by omega, hh⟩
          simpa using this) (by simpa using hw.1) (by simpa using hw.2)]; simp
        omega
theorem well_step {rows height row margin s d : Int} (h3 : 1 ≤ height) (h0 : 0 ≤ s) (h1 : s < rows) (hd : d = -1 ∨ d = 1) (hr : 0 ≤ row + d) (hr' : row + d < rows) (hw : wellI rows height row margin s = true) :
    wellI rows height (row + d) margin s = true ∨ (0 ≤ s - 1 ∧ wellI rows height (row + d) margin (s - 1) = true) ∨ (s + 1 < rows ∧ wellI rows height (row + d) margin (s + 1) = true) := by
  have hm0 : 0 ≤ clampI margin 0 ((height - 1) / 2) := by unfold clampI; omega
  have hm1 : clampI margin 0 ((height - 1) / 2) ≤ (height - 1) / 2 := by unfold clampI; omega
  simp only [wellI] at *
  generalize clampI margin 0 ((height - 1) / 2) = m at *
  simp only [Bool.and_eq_true, Bool.or_eq_true, decide_eq_true_eq] at *
  omega
theorem well_vis {rows height row margin s : Int} (hw : wellI rows height row margin s = true) : s ≤ row ∧ row < s + height := by
  simp only [wellI, Bool.and_eq_true, Bool.or_eq_true, decide_eq_true_eq] at hw
  omega
theorem keepN_vis (rows height start row margin step : Int) (h3 : 1 ≤ height) (h5 : 0 ≤ row) (h6 : row < rows) :
    0 ≤ keepN rows height start row margin step ∧ keepN rows height start row margin step < rows ∧ keepN rows height start row margin step ≤ row ∧ row < keepN rows height start row margin step + height := by
  unfold keepN
  cases hk : seekK rows height start row margin step with
  | none => simp only; omega
  | some x =>
    have hx := x.2
    have hw := List.find?_some hk
    have := well_vis hw
    simp only; omega

/-! ### Page, Center -/
theorem page_fwd {rows height start n overlap : Int} (h1 : 1 ≤ rows) (h3 : 1 ≤ height) (h4 : height ≤ 200) (hs0 : 0 ≤ start) (hs1 : start < rows) (hn0 : 0 ≤ n) (hn1 : n ≤ 1000) :
    start ≤ pageN rows height start n overlap ∧ pageN rows height start n overlap < rows ∧ clampI start 0 (rows - 1) = start ∧
      (pageN rows height start n overlap < rows - 1 → pageN rows height (pageN rows height start n overlap) (-n) overlap = start) := by
  have hp0 : 0 ≤ pageI height overlap := by unfold pageI clampI; omega
  have hm : 0 ≤ n * pageI height overlap := Int.mul_nonneg hn0 hp0
  have c0 : clampI start 0 (rows - 1) = start := by unfold clampI; omega
  have c1 : clampI n (-1000) 1000 = n := by unfold clampI; omega
  have c2 : clampI (-n) (-1000) 1000 = -n := by unfold clampI; omega
  have e : pageN rows height start n overlap = clampI (start + n * pageI height overlap) 0 (rows - 1) := by unfold pageN; rw [c0, c1]
  refine ⟨?_, ?_, c0, fun hlt => ?_⟩
  · rw [e]; unfold clampI; omega
  · rw [e]; unfold clampI; omega
  · have e2 : pageN rows height start n overlap = start + n * pageI height overlap := by rw [e] at hlt ⊢; unfold clampI at *; omega
    rw [e2]
    unfold pageN
    rw [c2, Int.neg_mul]
    rw [e2] at hlt
    have c3 : clampI (start + n * pageI height overlap) 0 (rows - 1) = start + n * pageI height overlap := by unfold clampI; omega
    rw [c3]
    unfold clampI; omega
theorem center_line {rows height row line : Int} (h1 : 1 ≤ rows) (h3 : 1 ≤ height) (h4 : height ≤ 200) (hr0 : 0 ≤ row) (hr1 : row < rows) (hl0 : 0 ≤ line) (hl1 : line < height) :
    centerN rows height row (line - height) = centerN rows height row line ∧ 0 ≤ centerN rows height row line ∧ centerN rows height row line ≤ row ∧ ((row < line ∧ centerN rows height row line = 0) ∨ row - centerN rows height row line = line) := by
  have l1 : lineI height line = line := by unfold lineI clampI; rw [if_neg (by omega)]; omega
  have l2 : lineI height (line - height) = line := by unfold lineI clampI; rw [if_pos (by omega)]; omega
  unfold centerN
  rw [l1, l2]
  unfold clampI
  omega
end Go.Proofs.Ytnpamchdflfboaa
