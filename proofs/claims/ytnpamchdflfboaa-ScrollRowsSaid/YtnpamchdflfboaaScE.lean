/- scroll.Well, Center, Page and their references: what they hand back. -/
import Derived.Test.YtnpamchdflfboaaScD
namespace Go.Proofs.Ytnpamchdflfboaa
open Go.RowKit Go.Shelf
set_option linter.unusedVariables false

abbrev viewB (rows height row margin : Int) : Obj := .cells #[.int .i64 rows, .int .i64 height, .int .i64 row, .int .i64 margin] 49

set_option maxHeartbeats 400000 in
theorem valid_eq (rows height row margin : Int) (w : World) :
    Calls Try.prog 29 #[viewV rows height row margin] w fun e w' => e = .returned (.bool (validI rows height)) ∧ w.alloc (viewB rows height row margin) = w' := by
  go_enter Try.func29, Try.ntmps29
  go_wp2
  all_goals (go_ret; exact ⟨ret_bool (Bool.eq_iff_iff.2 (by simp [validI] <;> omega)), rfl⟩)

set_option maxHeartbeats 400000 in
theorem has_eq (rows height row margin r : Int) (w : World) :
    Calls Try.prog 30 #[viewV rows height row margin, .int .i64 r] w fun e w' => e = .returned (.bool (hasI rows r)) ∧ w.alloc (viewB rows height row margin) = w' := by
  go_enter Try.func30, Try.ntmps30
  go_wp2
  all_goals (go_ret; exact ⟨ret_bool (Bool.eq_iff_iff.2 (by simp [hasI] <;> omega)), rfl⟩)

set_option maxHeartbeats 400000 in
theorem well_eq (rows height row margin start : Int) (w : World) (h1 : 1 ≤ rows) (h2 : rows ≤ 100000) (h3 : 1 ≤ height) (h4 : height ≤ 200) (h5 : 0 ≤ start) (h6 : start < rows) :
    Calls Try.prog 34 #[viewV rows height row margin, .int .i64 start] w fun e w' => e = .returned (.bool (wellI rows height row margin start)) ∧ w.alloc (viewB rows height row margin) = w' := by
  have hc : 0 ≤ clampI margin 0 ((height - 1) / 2) ∧ clampI margin 0 ((height - 1) / 2) ≤ 200 := by unfold clampI; omega
  obtain ⟨hc1, hc2⟩ := hc
  go_enter Try.func34, Try.ntmps34
  go_wp2_with (go_at_call 33; refine (clamp_any _ _ _ _).mono ?_; rintro e w' ⟨rfl, rfl⟩)
  all_goals (go_ret; exact ⟨ret_bool (Bool.eq_iff_iff.2 (by simp [wellI] <;> omega)), rfl⟩)

theorem below1 (w : World) (a : Obj) : Below w.heap.size w (w.alloc a) := (Below.refl _ w).alloc (Nat.le_refl _) _
theorem below2 (w : World) (a b : Obj) : Below w.heap.size w ((w.alloc a).alloc b) := (below1 w a).alloc (by simp) _
theorem below3 (w : World) (a b c : Obj) : Below w.heap.size w (((w.alloc a).alloc b).alloc c) := (below2 w a b).alloc (by simp; omega) _
theorem below4 (w : World) (a b c d : Obj) : Below w.heap.size w ((((w.alloc a).alloc b).alloc c).alloc d) := (below3 w a b c).alloc (by simp; omega) _
theorem below5 (w : World) (a b c d e : Obj) : Below w.heap.size w (((((w.alloc a).alloc b).alloc c).alloc d).alloc e) := (below4 w a b c d).alloc (by simp; omega) _

def wellW (rows height start row margin : Int) : Bool := validI rows height && (hasI rows row && (hasI rows start && wellI rows height row margin start))

set_option maxHeartbeats 1000000 in
theorem Well_any (rows height start row margin : Int) (w : World) :
    Calls Try.prog 13 #[.int .i64 rows, .int .i64 height, .int .i64 start, .int .i64 row, .int .i64 margin] w fun e w' => e = .returned (.bool (wellW rows height start row margin)) ∧ Below w.heap.size w w' := by
  by_cases hv : validI rows height = true
  · by_cases hr : hasI rows row = true
    · by_cases hs : hasI rows start = true
      · obtain ⟨q1, q2, q3, q4⟩ := validI_true hv
        obtain ⟨q5, q6⟩ := hasI_true hs
        have fin : wellW rows height start row margin = wellI rows height row margin start := by simp [wellW, hv, hr, hs]
        have HF := Lib.hid fin
        clear fin
        go_enter Try.func13, Try.ntmps13
        go_wp2_with (first | (go_at_call 29; refine (valid_eq _ _ _ _ _).mono ?_; rintro e w' ⟨rfl, rfl⟩) | (go_at_call 30; refine (has_eq _ _ _ _ _ _).mono ?_; rintro e w' ⟨rfl, rfl⟩) | (go_at_call 34; refine (well_eq _ _ _ _ _ _ q1 q2 q3 q4 q5 q6).mono ?_; rintro e w' ⟨rfl, rfl⟩))
        go_ret
        exact ⟨ret_bool HF.out.symm, below5 _ _ _ _ _ _⟩
      · have hn : hasI rows start = false := by simpa using hs
        clear hs
        have fin : wellW rows height start row margin = false := by simp [wellW, *]
        have HF := Lib.hid fin
        clear fin
        go_enter Try.func13, Try.ntmps13
        go_wp2_with (first | (go_at_call 29; refine (valid_eq _ _ _ _ _).mono ?_; rintro e w' ⟨rfl, rfl⟩) | (go_at_call 30; refine (has_eq _ _ _ _ _ _).mono ?_; rintro e w' ⟨rfl, rfl⟩))
        go_ret
        exact ⟨ret_bool HF.out.symm, below4 _ _ _ _ _⟩
    · have hn : hasI rows row = false := by simpa using hr
      clear hr
      have fin : wellW rows height start row margin = false := by simp [wellW, *]
      have HF := Lib.hid fin
      clear fin
      go_enter Try.func13, Try.ntmps13
      go_wp2_with (first | (go_at_call 29; refine (valid_eq _ _ _ _ _).mono ?_; rintro e w' ⟨rfl, rfl⟩) | (go_at_call 30; refine (has_eq _ _ _ _ _ _).mono ?_; rintro e w' ⟨rfl, rfl⟩))
      go_ret
      exact ⟨ret_bool HF.out.symm, below3 _ _ _ _⟩
  · have hn : validI rows height = false := by simpa using hv
    clear hv
    have fin : wellW rows height start row margin = false := by simp [wellW, *]
    have HF := Lib.hid fin
    clear fin
    go_enter Try.func13, Try.ntmps13
    go_wp2_with (first | (go_at_call 29; refine (valid_eq _ _ _ _ _).mono ?_; rintro e w' ⟨rfl, rfl⟩) | (go_at_call 30; refine (has_eq _ _ _ _ _ _).mono ?_; rintro e w' ⟨rfl, rfl⟩))
    go_ret
    exact ⟨ret_bool HF.out.symm, below2 _ _ _⟩

theorem wellR_bool (rows height start row margin : Int) (h : (validI rows height && (hasI rows row && hasI rows start)) = false) : wellW rows height start row margin = false := by
  unfold wellW
  revert h
  cases validI rows height <;> cases hasI rows row <;> cases hasI rows start <;> simp

set_option maxHeartbeats 1000000 in
theorem WellR_any (rows height start row margin : Int) (w : World) :
    Calls Try.prog 14 #[.int .i64 rows, .int .i64 height, .int .i64 start, .int .i64 row, .int .i64 margin] w fun e w' => e = .returned (.bool (wellW rows height start row margin)) ∧ w = w' := by
  by_cases hv : validI rows height = true
  · obtain ⟨q1, q2, q3, q4⟩ := validI_true hv
    by_cases hr : 0 ≤ row ∧ row < rows ∧ 0 ≤ start ∧ start < rows
    · obtain ⟨r1, r2, r3, r4⟩ := hr
      have fin : wellW rows height start row margin = wellI rows height row margin start := by simp [wellW, hv, hasI, r1, r2, r3, r4]
      have HF := Lib.hid fin
      clear fin
      go_enter Try.func14, Try.ntmps14
      go_wp2_with (first | (go_at_call 35; refine (validR_any _ _ _).mono ?_; rintro e w' ⟨rfl, rfl⟩) | (go_at_call 37; refine (wellR_any _ _ _ _ _ _ q1 q2 q3 q4 r3 r4).mono ?_; rintro e w' ⟨rfl, rfl⟩))
      go_ret
      exact ⟨ret_bool HF.out.symm, rfl⟩
    · have fin : wellW rows height start row margin = false := wellR_bool _ _ _ _ _ (by simp [hasI]; omega)
      have HF := Lib.hid fin
      clear fin
      go_enter Try.func14, Try.ntmps14
      go_wp2_with (first | (go_at_call 35; refine (validR_any _ _ _).mono ?_; rintro e w' ⟨rfl, rfl⟩) | (go_at_call 37; refine (wellR_any _ _ _ _ _ _ q1 q2 q3 q4 (by omega) (by omega)).mono ?_; rintro e w' ⟨rfl, rfl⟩))
      all_goals (go_ret; exact ⟨ret_bool (by rw [HF.out]), rfl⟩)
  · have hn : validI rows height = false := by simpa using hv
    clear hv
    have fin : wellW rows height start row margin = false := by simp [wellW, *]
    have HF := Lib.hid fin
    clear fin
    go_enter Try.func14, Try.ntmps14
    go_wp2_with (first | (go_at_call 35; refine (validR_any _ _ _).mono ?_; rintro e w' ⟨rfl, rfl⟩))
    go_ret
    exact ⟨ret_bool HF.out.symm, rfl⟩

/-- What Center hands back. -/
def lineI (height line : Int) : Int := if clampI line (-1000) 1000 < 0 then clampI line (-1000) 1000 + height else clampI line (-1000) 1000
def centerN (rows height row line : Int) : Int := clampI (row - lineI height line) 0 (rows - 1)
def centerOk (rows height row : Int) : Bool := validI rows height && hasI rows row

set_option maxHeartbeats 1000000 in
theorem Center_yes (rows height row line : Int) (w : World) (h : centerOk rows height row = true) :
    Calls Try.prog 11 #[.int .i64 rows, .int .i64 height, .int .i64 row, .int .i64 line] w fun e w' => e = .returned (.tuple #[.int .i64 (centerN rows height row line), .int .i64 0]) ∧ Below w.heap.size w w' := by
  have hv : validI rows height = true := by simp [centerOk] at h; exact h.1
  have hh : hasI rows row = true := by simp [centerOk] at h; exact h.2
  clear h
  obtain ⟨q1, q2, q3, q4⟩ := validI_true hv
  obtain ⟨q5, q6⟩ := hasI_true hh
  have hc0 : -1000 ≤ clampI line (-1000) 1000 := by unfold clampI; omega
  have hc1 : clampI line (-1000) 1000 ≤ 1000 := by unfold clampI; omega
  go_enter Try.func11, Try.ntmps11
  go_wp2_with (first | (go_at_call 29; refine (valid_eq _ _ _ _ _).mono ?_; rintro e w' ⟨rfl, rfl⟩) | (go_at_call 30; refine (has_eq _ _ _ _ _ _).mono ?_; rintro e w' ⟨rfl, rfl⟩) | (go_at_call 33; refine (clamp_any _ _ _ _).mono ?_; rintro e w' ⟨rfl, rfl⟩))
  all_goals (go_ret2; exact ⟨ret_two (by unfold centerN lineI; first | rw [if_pos (by omega)] | rw [if_neg (by omega)]), below3 _ _ _ _⟩)

set_option maxHeartbeats 1000000 in
theorem Center_no (rows height row line : Int) (w : World) (h : centerOk rows height row = false) :
    Calls Try.prog 11 #[.int .i64 rows, .int .i64 height, .int .i64 row, .int .i64 line] w fun e w' => e = .returned (.tuple #[.int .i64 0, .int .i64 3]) ∧ Below w.heap.size w w' := by
  by_cases hv : validI rows height = true
  · have hh : hasI rows row = false := by simpa [centerOk, hv] using h
    clear h
    go_enter Try.func11, Try.ntmps11
    go_wp2_with (first | (go_at_call 29; refine (valid_eq _ _ _ _ _).mono ?_; rintro e w' ⟨rfl, rfl⟩) | (go_at_call 30; refine (has_eq _ _ _ _ _ _).mono ?_; rintro e w' ⟨rfl, rfl⟩))
    go_ret2
    exact ⟨rfl, below3 _ _ _ _⟩
  · have hn : validI rows height = false := by simpa using hv
    clear hv h
    go_enter Try.func11, Try.ntmps11
    go_wp2_with (first | (go_at_call 29; refine (valid_eq _ _ _ _ _).mono ?_; rintro e w' ⟨rfl, rfl⟩) | (go_at_call 30; refine (has_eq _ _ _ _ _ _).mono ?_; rintro e w' ⟨rfl, rfl⟩))
    go_ret2
    exact ⟨rfl, below2 _ _ _⟩

set_option maxHeartbeats 1000000 in
theorem CenterR_yes (rows height row line : Int) (w : World) (h : centerOk rows height row = true) :
    Calls Try.prog 12 #[.int .i64 rows, .int .i64 height, .int .i64 row, .int .i64 line] w fun e w' => e = .returned (.tuple #[.int .i64 (centerN rows height row line), .int .i64 0]) ∧ w = w' := by
  have hv : validI rows height = true := by simp [centerOk] at h; exact h.1
  have hh : hasI rows row = true := by simp [centerOk] at h; exact h.2
  clear h
  obtain ⟨q1, q2, q3, q4⟩ := validI_true hv
  obtain ⟨q5, q6⟩ := hasI_true hh
  have hc0 : -1000 ≤ clampI line (-1000) 1000 := by unfold clampI; omega
  have hc1 : clampI line (-1000) 1000 ≤ 1000 := by unfold clampI; omega
  go_enter Try.func12, Try.ntmps12
  go_wp2_with (first | (go_at_call 35; refine (validR_any _ _ _).mono ?_; rintro e w' ⟨rfl, rfl⟩) | (go_at_call 36; refine (clampR_any _ _ _ _).mono ?_; rintro e w' ⟨rfl, rfl⟩))
  all_goals (go_ret2; exact ⟨ret_two (by unfold centerN lineI; first | rw [if_pos (by omega)] | rw [if_neg (by omega)]), rfl⟩)

set_option maxHeartbeats 1000000 in
theorem CenterR_no (rows height row line : Int) (w : World) (h : centerOk rows height row = false) :
    Calls Try.prog 12 #[.int .i64 rows, .int .i64 height, .int .i64 row, .int .i64 line] w fun e w' => e = .returned (.tuple #[.int .i64 0, .int .i64 3]) ∧ w = w' := by
  by_cases hv : validI rows height = true
  · have hh : row < 0 ∨ rows ≤ row := by simp [centerOk, hv, hasI] at h; omega
    clear h
    rcases hh with hh | hh
    all_goals
      go_enter Try.func12, Try.ntmps12
      go_wp2_with (first | (go_at_call 35; refine (validR_any _ _ _).mono ?_; rintro e w' ⟨rfl, rfl⟩))
      all_goals (go_ret2; exact ⟨rfl, rfl⟩)
  · have hn : validI rows height = false := by simpa using hv
    clear hv h
    go_enter Try.func12, Try.ntmps12
    go_wp2_with (first | (go_at_call 35; refine (validR_any _ _ _).mono ?_; rintro e w' ⟨rfl, rfl⟩))
    go_ret2
    exact ⟨rfl, rfl⟩

/-- What Page hands back. -/
def pageI (height overlap : Int) : Int := height - clampI overlap 0 (height - 1)
def pageN (rows height start n overlap : Int) : Int := clampI (clampI start 0 (rows - 1) + clampI n (-1000) 1000 * pageI height overlap) 0 (rows - 1)
theorem mul_bound (a b : Int) (h1 : -1000 ≤ a) (h2 : a ≤ 1000) (h3 : 0 ≤ b) (h4 : b ≤ 200) : -200000 ≤ a * b ∧ a * b ≤ 200000 := by
  have e1 : a * b ≤ 1000 * b := Int.mul_le_mul_of_nonneg_right h2 h3
  have e2 : (-1000) * b ≤ a * b := Int.mul_le_mul_of_nonneg_right h1 h3
  omega
theorem ret_three {a b : Int} {p q : Bool} {v : Value} (h : a = b) (h' : p = q) : Ending.returned (.tuple #[.int .i64 a, .bool p, v]) = .returned (.tuple #[.int .i64 b, .bool q, v]) := by rw [h, h']

set_option maxHeartbeats 1000000 in
theorem Page_yes (rows height start n overlap : Int) (w : World) (hv : validI rows height = true) :
    Calls Try.prog 15 #[.int .i64 rows, .int .i64 height, .int .i64 start, .int .i64 n, .int .i64 overlap] w fun e w' => e = .returned (.tuple #[.int .i64 (pageN rows height start n overlap), .bool (pageN rows height start n overlap != clampI start 0 (rows - 1)), .int .i64 0]) ∧ Below w.heap.size w w' := by
  obtain ⟨q1, q2, q3, q4⟩ := validI_true hv
  have a0 : 0 ≤ clampI start 0 (rows - 1) := by unfold clampI; omega
  have a1 : clampI start 0 (rows - 1) ≤ rows - 1 := by unfold clampI; omega
  have b0 : 0 ≤ clampI overlap 0 (height - 1) := by unfold clampI; omega
  have b1 : clampI overlap 0 (height - 1) ≤ height - 1 := by unfold clampI; omega
  have c0 : -1000 ≤ clampI n (-1000) 1000 := by unfold clampI; omega
  have c1 : clampI n (-1000) 1000 ≤ 1000 := by unfold clampI; omega
  obtain ⟨m0, m1⟩ := mul_bound (clampI n (-1000) 1000) (height - clampI overlap 0 (height - 1)) c0 c1 (by omega) (by omega)
  go_enter Try.func15, Try.ntmps15
  go_wp2_with (first | (go_at_call 29; refine (valid_eq _ _ _ _ _).mono ?_; rintro e w' ⟨rfl, rfl⟩) | (go_at_call 33; refine (clamp_any _ _ _ _).mono ?_; rintro e w' ⟨rfl, rfl⟩))
  go_ret3
  exact ⟨rfl, below1 _ _⟩

set_option maxHeartbeats 1000000 in
theorem Page_no (rows height start n overlap : Int) (w : World) (hv : validI rows height = false) :
    Calls Try.prog 15 #[.int .i64 rows, .int .i64 height, .int .i64 start, .int .i64 n, .int .i64 overlap] w fun e w' => e = .returned (.tuple #[.int .i64 0, .bool false, .int .i64 3]) ∧ Below w.heap.size w w' := by
  go_enter Try.func15, Try.ntmps15
  go_wp2_with (first | (go_at_call 29; refine (valid_eq _ _ _ _ _).mono ?_; rintro e w' ⟨rfl, rfl⟩))
  go_ret3
  exact ⟨rfl, below1 _ _⟩

theorem pageR_end (rows height start n overlap v : Int) (q1 : 1 ≤ rows) (q2 : rows ≤ 100000) (q3 : 1 ≤ height) (q4 : height ≤ 200) (hp : v = max 1 (height - min (max 0 overlap) height)) :
    clampI (wrap64 (clampI start 0 (rows - 1) + wrap64 (clampI n (-1000) 1000 * v))) 0 (rows - 1) = pageN rows height start n overlap := by
  have hp' : v = pageI height overlap := by unfold pageI clampI; omega
  have a0 : 0 ≤ clampI start 0 (rows - 1) := by unfold clampI; omega
  have a1 : clampI start 0 (rows - 1) ≤ rows - 1 := by unfold clampI; omega
  have c0 : -1000 ≤ clampI n (-1000) 1000 := by unfold clampI; omega
  have c1 : clampI n (-1000) 1000 ≤ 1000 := by unfold clampI; omega
  obtain ⟨m0, m1⟩ := mul_bound (clampI n (-1000) 1000) v c0 c1 (by omega) (by omega)
  rw [IntWalk.wrap64_in (clampI n (-1000) 1000 * v) (by omega), IntWalk.wrap64_in _ (by omega)]
  subst hp'
  rfl
theorem pageR_end1 (rows height start n overlap : Int) (q1 : 1 ≤ rows) (q2 : rows ≤ 100000) (q3 : 1 ≤ height) (q4 : height ≤ 200) (hp : 1 = max 1 (height - min (max 0 overlap) height)) :
    clampI (wrap64 (clampI start 0 (rows - 1) + wrap64 (clampI n (-1000) 1000))) 0 (rows - 1) = pageN rows height start n overlap := by
  have := pageR_end rows height start n overlap 1 q1 q2 q3 q4 hp
  rwa [Int.mul_one] at this
theorem pageR_ret {a b c : Int} (h : a = b) : Ending.returned (.tuple #[.int .i64 a, .bool (a != c), .int .i64 0]) = .returned (.tuple #[.int .i64 b, .bool (b != c), .int .i64 0]) := by rw [h]

set_option maxHeartbeats 1000000 in
theorem PageR_yes (rows height start n overlap : Int) (w : World) (hv : validI rows height = true) :
    Calls Try.prog 16 #[.int .i64 rows, .int .i64 height, .int .i64 start, .int .i64 n, .int .i64 overlap] w fun e w' => e = .returned (.tuple #[.int .i64 (pageN rows height start n overlap), .bool (pageN rows height start n overlap != clampI start 0 (rows - 1)), .int .i64 0]) ∧ w = w' := by
  obtain ⟨q1, q2, q3, q4⟩ := validI_true hv
  go_enter Try.func16, Try.ntmps16
  go_wp2_with (first | (go_at_call 35; refine (validR_any _ _ _).mono ?_; rintro e w' ⟨rfl, rfl⟩) | (go_at_call 36; refine (clampR_any _ _ _ _).mono ?_; rintro e w' ⟨rfl, rfl⟩))
  all_goals go_ret3
  all_goals (refine ⟨pageR_ret ?_, rfl⟩; first | (with_reducible refine pageR_end1 rows height start n overlap q1 q2 q3 q4 ?_) | (with_reducible refine pageR_end rows height start n overlap _ q1 q2 q3 q4 ?_))
  all_goals omega

set_option maxHeartbeats 1000000 in
theorem PageR_no (rows height start n overlap : Int) (w : World) (hv : validI rows height = false) :
    Calls Try.prog 16 #[.int .i64 rows, .int .i64 height, .int .i64 start, .int .i64 n, .int .i64 overlap] w fun e w' => e = .returned (.tuple #[.int .i64 0, .bool false, .int .i64 3]) ∧ w = w' := by
  go_enter Try.func16, Try.ntmps16
  go_wp2_with (first | (go_at_call 35; refine (validR_any _ _ _).mono ?_; rintro e w' ⟨rfl, rfl⟩))
  go_ret3
  exact ⟨rfl, rfl⟩
end Go.Proofs.Ytnpamchdflfboaa
