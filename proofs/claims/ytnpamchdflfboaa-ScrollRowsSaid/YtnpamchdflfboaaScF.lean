/- copyistref37.Keep: it hands back what scroll.Keep does. -/
import Derived.Test.YtnpamchdflfboaaScE
namespace Go.Proofs.Ytnpamchdflfboaa
open Go.RowKit Go.Shelf
set_option linter.unusedVariables false

/-- No start at a distance below k is comfortable. -/
def noneTo (rows height row margin s : Int) (k : Nat) : Prop := ∀ y ∈ nearTo rows s k, wellI rows height row margin y.1 = false
theorem noneTo_zero (rows height row margin s : Int) : noneTo rows height row margin s 0 := fun y hy => by simp [nearTo] at hy
theorem mem_nearA {rows s : Int} {k : Nat} {y : RI rows} (h : y ∈ nearA rows s k) : y.1 = s - k := by
  unfold nearA at h; split at h <;> simp at h; subst h; rfl
theorem mem_nearB {rows s : Int} {k : Nat} {y : RI rows} (h : y ∈ nearB rows s k) : y.1 = s + k := by
  unfold nearB at h; split at h <;> simp at h; subst h; rfl
theorem noneTo_succ {rows height row margin s : Int} {k : Nat} (h : noneTo rows height row margin s k) (hA : 0 ≤ s - k → wellI rows height row margin (s - k) = false) (hB : s + k < rows → wellI rows height row margin (s + k) = false) : noneTo rows height row margin s (k + 1) := by
  intro y hy
  simp only [nearTo, List.mem_append] at hy
  rcases hy with (hy | hy) | hy
  · exact h y hy
  · have e := mem_nearA hy; rw [e]; exact hA (by have := y.2; omega)
  · have e := mem_nearB hy; rw [e]; exact hB (by have := y.2; omega)
theorem keepN_A {rows height start row margin step s : Int} {k : Nat} (hs : clampI start 0 (rows - 1) = s) (h : noneTo rows height row margin s k) (hk : k < tries rows step) (h0 : 0 ≤ s - k) (h1 : s - k < rows) (hw : wellI rows height row margin (s - k) = true) : keepN rows height start row margin step = s - k := by
  have hp := nearTo_prefix rows s (k + 1) (tries rows step) hk
  have eA : nearA rows s k = [⟨s - k, h0, h1⟩] := by simp only [nearA]; rw [dif_pos ⟨h0, h1⟩]
  have hf : (nearTo rows s (tries rows step)).find? (fun x => wellI rows height row margin x.1) = some ⟨s - k, h0, h1⟩ := by
    obtain ⟨r, hr⟩ := hp
    rw [← hr]
    simp only [nearTo, eA, List.append_assoc, List.find?_append]
    rw [List.find?_eq_none.2 (fun y hy => by simp [h y hy])]
    simp [hw]
  unfold keepN seekK
  rw [hs, hf]
theorem keepN_B {rows height start row margin step s : Int} {k : Nat} (hs : clampI start 0 (rows - 1) = s) (hs0 : 0 ≤ s) (h : noneTo rows height row margin s k) (hk : k < tries rows step) (hA : 0 ≤ s - k → wellI rows height row margin (s - k) = false) (h1 : s + k < rows) (hw : wellI rows height row margin (s + k) = true) : keepN rows height start row margin step = s + k := by
  have hk0 : 0 < k := by
    rcases Nat.eq_zero_or_pos k with rfl | h
    · have := hA (by omega)
      simp at this hw
      rw [this] at hw; cases hw
    · exact h
  have hp := nearTo_prefix rows s (k + 1) (tries rows step) hk
  have eB : nearB rows s k = [⟨s + k, by omega, h1⟩] := by simp only [nearB]; rw [dif_pos ⟨hk0, by omega, h1⟩]
  have hf : (nearTo rows s (tries rows step)).find? (fun x => wellI rows height row margin x.1) = some ⟨s + k, by omega, h1⟩ := by
    obtain ⟨r, hr⟩ := hp
    rw [← hr]
    simp only [nearTo, eB, List.append_assoc, List.find?_append]
    rw [List.find?_eq_none.2 (fun y hy => by simp [h y hy]), List.find?_eq_none.2 (fun y hy => by have e := mem_nearA hy; have := hA (by have := y.2; omega); simp [e, this])]
    simp [hw]
  unfold keepN seekK
  rw [hs, hf]
theorem keepN_none {rows height start row margin step s : Int} (hs : clampI start 0 (rows - 1) = s) (h : noneTo rows height row margin s (tries rows step)) : keepN rows height start row margin step = max 0 (row - height / 2) := by
  unfold keepN seekK
  rw [hs, List.find?_eq_none.2 (fun y hy => by simp [h y hy])]

set_option maxHeartbeats 1000000 in
theorem KeepR_no (rows height start row margin step : Int) (w : World) (h : keepOk rows height row step = false) :
    Calls Try.prog 10 #[.int .i64 rows, .int .i64 height, .int .i64 start, .int .i64 row, .int .i64 margin, .int .i64 step] w
      fun e w' => e = .returned (.tuple #[.int .i64 0, .int .i64 3]) ∧ w = w' := by
  by_cases hv : validI rows height = true
  · have hh : row < 0 ∨ rows ≤ row ∨ (0 ≤ row ∧ row < rows ∧ step < 1) := by simp [keepOk, hv, hasI] at h; omega
    clear h
    rcases hh with hh | hh | ⟨h1, h2, h3⟩
    all_goals
      go_enter Try.func10, Try.ntmps10
      go_wp2_with (go_at_call 35; refine (validR_any _ _ _).mono ?_; rintro e w' ⟨rfl, rfl⟩)
      all_goals (go_ret2; exact ⟨rfl, rfl⟩)
  · have hn : validI rows height = false := by simpa using hv
    clear hv h
    go_enter Try.func10, Try.ntmps10
    go_wp2_with (go_at_call 35; refine (validR_any _ _ _).mono ?_; rintro e w' ⟨rfl, rfl⟩)
    go_ret2
    exact ⟨rfl, rfl⟩

set_option maxRecDepth 100000 in
set_option maxHeartbeats 2000000 in
theorem KeepR_yes (rows height start row margin step : Int) (w : World) (h : keepOk rows height row step = true) :
    Calls Try.prog 10 #[.int .i64 rows, .int .i64 height, .int .i64 start, .int .i64 row, .int .i64 margin, .int .i64 step] w
      fun e w' => e = .returned (.tuple #[.int .i64 (keepN rows height start row margin step), .int .i64 0]) ∧ w = w' := by
  have hv : validI rows height = true := by simp [keepOk] at h; exact h.1.1
  have hh : hasI rows row = true := by simp [keepOk] at h; exact h.1.2
  have hst : 1 ≤ step := by simp [keepOk] at h; exact h.2
  clear h
  obtain ⟨q1, q2, q3, q4⟩ := validI_true hv
  obtain ⟨q5, q6⟩ := hasI_true hh
  obtain ⟨s, hs⟩ : ∃ s, s = clampI start 0 (rows - 1) := ⟨_, rfl⟩
  have hs0 : 0 ≤ s := by rw [hs]; unfold clampI; omega
  have hs1 : s < rows := by rw [hs]; unfold clampI; omega
  have HS := Lib.hid hs.symm
  clear hs
  have hT : (tries rows step : Int) = min step (rows - 1) + 1 := by unfold tries; omega
  have t1 : (tries rows step : Int) ≤ step + 1 := by omega
  have t2 : (tries rows step : Int) ≤ rows := by omega
  have t3 : step + 1 ≤ (tries rows step : Int) ∨ rows ≤ (tries rows step : Int) := by omega
  clear hT
  go_enter Try.func10, Try.ntmps10
  go_wp2_with (first | (go_at_call 35; refine (validR_any _ _ _).mono ?_; rintro e w' ⟨rfl, rfl⟩) | (go_at_call 36; refine (clampR_any _ _ _ _).mono ?_; rintro e w' ⟨rfl, rfl⟩; rw [HS.out]))
  go_loop [14] (fun d => ∃ k : Nat, k ≤ tries rows step ∧ d = .int .i64 k ∧ noneTo rows height row margin s k) (fun d => tries rows step - (intOf d).toNat)
  case atStart => exact ⟨0, Nat.zero_le _, rfl, noneTo_zero _ _ _ _ _⟩
  case round =>
    obtain ⟨k, hk, rfl, hno⟩ := hrel
    by_cases hlt : k < tries rows step
    · have HN := Lib.hid hno
      clear hno
      go_wp2_with (go_at_call 37; refine (wellR_any _ _ _ _ _ _ q1 q2 q3 q4 (by omega) (by omega)).mono ?_; rintro e w' ⟨rfl, rfl⟩)
      · go_ret2
        exact ⟨ret_two (keepN_A HS.out HN.out hlt (by omega) (by omega) (by assumption)).symm, rfl⟩
      · go_ret2
        exact ⟨ret_two (keepN_B HS.out hs0 HN.out hlt (fun _ => by first | assumption | omega) (by omega) (by assumption)).symm, rfl⟩
      · go_round
        case rel => exact ⟨k + 1, by omega, by go_num, noneTo_succ HN.out (fun _ => by first | assumption | omega) (fun _ => by first | assumption | omega)⟩
        case measure => simp [intOf]; omega
      · go_round
        case rel => exact ⟨k + 1, by omega, by go_num, noneTo_succ HN.out (fun _ => by first | assumption | omega) (fun _ => by first | assumption | omega)⟩
        case measure => simp [intOf]; omega
      · go_ret2
        exact ⟨ret_two (keepN_B HS.out hs0 HN.out hlt (fun _ => by first | assumption | omega) (by omega) (by assumption)).symm, rfl⟩
      · go_round
        case rel => exact ⟨k + 1, by omega, by go_num, noneTo_succ HN.out (fun _ => by first | assumption | omega) (fun _ => by first | assumption | omega)⟩
        case measure => simp [intOf]; omega
      · go_round
        case rel => exact ⟨k + 1, by omega, by go_num, noneTo_succ HN.out (fun _ => by first | assumption | omega) (fun _ => by first | assumption | omega)⟩
        case measure => simp [intOf]; omega
    · have hk' : k = tries rows step := by omega
      have HK := Lib.hid (keepN_none HS.out (hk' ▸ hno))
      clear hk'
      go_wp2
      all_goals go_ret2
      all_goals rw [HK.out]
      all_goals exact ⟨ret_two (by omega), rfl⟩
end Go.Proofs.Ytnpamchdflfboaa
