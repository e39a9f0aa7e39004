/- Contracts of the small functions of package scroll and of its reference: clamp, valid, has, well. -/
import Derived.Test.YtnpamchdflfboaaRows
import Derived.WalkKit
import Derived.WalkSpells
import Derived.WalkLawsBesides
import Derived.Deep.QuietTactic
import Derived.BigQuiet
namespace Go.Proofs.Ytnpamchdflfboaa
open Go.RowKit
set_option linter.unusedVariables false

theorem ret_int {k : IntKind} {a b : Int} (h : a = b) : Ending.returned (.int k a) = .returned (.int k b) := by rw [h]
theorem ret_bool {a b : Bool} (h : a = b) : Ending.returned (.bool a) = .returned (.bool b) := by rw [h]

def clampI (x lo hi : Int) : Int := max lo (min x hi)
def validI (rows height : Int) : Bool := decide (1 ≤ rows) && (decide (rows ≤ 100000) && (decide (1 ≤ height) && decide (height ≤ 200)))
def hasI (rows row : Int) : Bool := decide (0 ≤ row) && decide (row < rows)
def wellI (rows height row margin start : Int) : Bool :=
  decide (start ≤ row) && (decide (row ≤ start + height - 1) && ((decide (start = 0) || decide (start + clampI margin 0 ((height - 1) / 2) ≤ row)) && (decide (rows - 1 ≤ start + height - 1) || decide (row ≤ start + height - 1 - clampI margin 0 ((height - 1) / 2)))))

set_option maxHeartbeats 400000 in
theorem clamp_any (x lo hi : Int) (w : World) :
    Calls Try.prog 33 #[.int .i64 x, .int .i64 lo, .int .i64 hi] w fun e w' => e = .returned (.int .i64 (clampI x lo hi)) ∧ w = w' := by
  go_enter Try.func33, Try.ntmps33
  go_wp2
  all_goals (go_ret; exact ⟨ret_int (by simp only [clampI] at *; omega), rfl⟩)

set_option maxHeartbeats 400000 in
theorem clampR_any (x lo hi : Int) (w : World) :
    Calls Try.prog 36 #[.int .i64 x, .int .i64 lo, .int .i64 hi] w fun e w' => e = .returned (.int .i64 (clampI x lo hi)) ∧ w = w' := by
  go_enter Try.func36, Try.ntmps36
  go_wp2
  all_goals (go_ret; exact ⟨ret_int (by simp only [clampI] at *; omega), rfl⟩)

set_option maxHeartbeats 400000 in
theorem validR_any (rows height : Int) (w : World) :
    Calls Try.prog 35 #[.int .i64 rows, .int .i64 height] w fun e w' => e = .returned (.bool (validI rows height)) ∧ w = w' := by
  go_enter Try.func35, Try.ntmps35
  go_wp2
  all_goals (go_ret; exact ⟨ret_bool (Bool.eq_iff_iff.2 (by simp [validI] <;> omega)), rfl⟩)

abbrev viewV (rows height row margin : Int) : Value := .agg #[.int .i64 rows, .int .i64 height, .int .i64 row, .int .i64 margin]

set_option maxHeartbeats 400000 in
theorem valid_any (rows height row margin : Int) (w : World) :
    Calls Try.prog 29 #[viewV rows height row margin] w fun e w' => e = .returned (.bool (validI rows height)) ∧ Below w.heap.size w w' := by
  go_enter Try.func29, Try.ntmps29
  go_wp2
  all_goals (go_ret; exact ⟨ret_bool (Bool.eq_iff_iff.2 (by simp [validI] <;> omega)), (Below.refl _ _).alloc (Nat.le_refl _) _⟩)

set_option maxHeartbeats 400000 in
theorem has_any (rows height row margin r : Int) (w : World) :
    Calls Try.prog 30 #[viewV rows height row margin, .int .i64 r] w fun e w' => e = .returned (.bool (hasI rows r)) ∧ Below w.heap.size w w' := by
  go_enter Try.func30, Try.ntmps30
  go_wp2
  all_goals (go_ret; exact ⟨ret_bool (Bool.eq_iff_iff.2 (by simp [hasI] <;> omega)), (Below.refl _ _).alloc (Nat.le_refl _) _⟩)

set_option maxHeartbeats 400000 in
theorem wellR_any (rows height start row margin : Int) (w : World) (h1 : 1 ≤ rows) (h2 : rows ≤ 100000) (h3 : 1 ≤ height) (h4 : height ≤ 200) (h5 : 0 ≤ start) (h6 : start < rows) :
    Calls Try.prog 37 #[.int .i64 rows, .int .i64 height, .int .i64 start, .int .i64 row, .int .i64 margin] w fun e w' => e = .returned (.bool (wellI rows height row margin start)) ∧ w = w' := by
  have hc : 0 ≤ clampI margin 0 ((height - 1) / 2) ∧ clampI margin 0 ((height - 1) / 2) ≤ 200 := by unfold clampI; omega
  obtain ⟨hc1, hc2⟩ := hc
  go_enter Try.func37, Try.ntmps37
  go_wp2_with (go_at_call 36; refine (clampR_any _ _ _ _).mono ?_; rintro e w' ⟨rfl, rfl⟩)
  all_goals (go_ret; exact ⟨ret_bool (Bool.eq_iff_iff.2 (by simp [wellI] <;> omega)), rfl⟩)

set_option maxHeartbeats 400000 in
theorem well_any (rows height row margin start : Int) (w : World) (h1 : 1 ≤ rows) (h2 : rows ≤ 100000) (h3 : 1 ≤ height) (h4 : height ≤ 200) (h5 : 0 ≤ start) (h6 : start < rows) :
    Calls Try.prog 34 #[viewV rows height row margin, .int .i64 start] w fun e w' => e = .returned (.bool (wellI rows height row margin start)) ∧ Below w.heap.size w w' := by
  have hc : 0 ≤ clampI margin 0 ((height - 1) / 2) ∧ clampI margin 0 ((height - 1) / 2) ≤ 200 := by unfold clampI; omega
  obtain ⟨hc1, hc2⟩ := hc
  go_enter Try.func34, Try.ntmps34
  go_wp2_with (go_at_call 33; refine (clamp_any _ _ _ _).mono ?_; rintro e w' ⟨rfl, rfl⟩)
  all_goals (go_ret; exact ⟨ret_bool (Bool.eq_iff_iff.2 (by simp [wellI] <;> omega)), (Below.refl _ _).alloc (Nat.le_refl _) _⟩)

set_option maxHeartbeats 400000 in
theorem near_any (rows height row margin start step : Int) (w : World) :
    Calls Try.prog 32 #[viewV rows height row margin, .int .i64 start, .int .i64 step] w fun e w' => e = .returned (.func (.func 44) #[] #[.pointer (some ⟨w.heap.size + 2, 0, none⟩), .pointer (some ⟨w.heap.size, 0, none⟩), .pointer (some ⟨w.heap.size + 1, 0, none⟩)]) ∧ ((w.alloc (.cells #[.int .i64 rows, .int .i64 height, .int .i64 row, .int .i64 margin] 49)).alloc (.cells #[.int .i64 start] 3)).alloc (.cells #[.int .i64 step] 3) = w' := by
  go_enter Try.func32, Try.ntmps32
  go_wp2
  go_ret
  exact ⟨rfl, rfl⟩
end Go.Proofs.Ytnpamchdflfboaa
