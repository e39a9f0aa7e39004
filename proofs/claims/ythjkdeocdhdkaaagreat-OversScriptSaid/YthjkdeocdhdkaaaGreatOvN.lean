/- Overlays: where the ends go at a removal. -/
import Derived.Test.YthjkdeocdhdkaaaGreatOvM
namespace Go.Proofs.YthjkdeocdhdkaaaGreat
open Go.RowKit
set_option linter.unusedVariables false
set_option linter.unusedSimpArgs false
section
variable {w w' : World} {x : OverE}
def backI (a f t : Int) : Int := if t ≤ a then a - (t - f) else if f < a then f else a
set_option maxHeartbeats 1000000 in
theorem back_any (a f t : Int) (w : World) (ha0 : 1 ≤ a) (ha1 : a ≤ 1099511627776) (hf0 : 1 ≤ f) (hf1 : f ≤ t) (ht1 : t ≤ 1099511627776) :
    Calls Tryz.prog 122 #[.agg #[.int .i64 f, .int .i64 t], .int .i64 a] w fun e w' => e = .returned (.int .i64 (backI a f t)) ∧ Below w.heap.size w w' := by
  by_cases h1 : t ≤ a
  · have e1 : backI a f t = a - (t - f) := by unfold backI; rw [if_pos h1]
    have d1 : decide (t ≤ a) = true := decide_eq_true h1
    rw [e1]
    clear e1
    go_enter Tryz.func122, Tryz.ntmps122
    go_wp2
    go_ret
    exact ⟨rfl, below1 _ _⟩
  · have d1 : decide (t ≤ a) = false := decide_eq_false h1
    by_cases h2 : f < a
    · have e1 : backI a f t = f := by unfold backI; rw [if_neg h1, if_pos h2]
      have d2 : decide (f < a) = true := decide_eq_true h2
      rw [e1]
      clear e1
      go_enter Tryz.func122, Tryz.ntmps122
      go_wp2
      go_ret
      exact ⟨rfl, below1 _ _⟩
    · have e1 : backI a f t = a := by unfold backI; rw [if_neg h1, if_neg h2]
      have d2 : decide (f < a) = false := decide_eq_false h2
      rw [e1]
      clear e1
      go_enter Tryz.func122, Tryz.ntmps122
      go_wp2
      go_ret
      exact ⟨rfl, below1 _ _⟩
set_option maxRecDepth 100000 in
set_option maxHeartbeats 1000000 in
theorem remEnds (hx : OverIn w x) (f t : Int) (hf0 : 1 ≤ x.f) (hf1 : x.f ≤ 1099511627776) (ht0 : 1 ≤ x.t) (ht1 : x.t ≤ 1099511627776) (h0 : 1 ≤ f) (h1 : f ≤ t) (h2 : t ≤ 1099511627776) :
    Calls Tryz.prog 123 #[.agg #[.int .i64 f, .int .i64 t], .pointer (some ⟨x.g, 0, none⟩)] w fun e w' => e = .returned (.tuple #[.int .i64 (backI x.f f t), .int .i64 (backI x.t f t)]) ∧ Below w.heap.size w w' := by
  have HB1 := Lib.hid (fun w1 => back_any x.f f t w1 hf0 hf1 h0 h1 h2)
  have HB2 := Lib.hid (fun w1 => back_any x.t f t w1 ht0 ht1 h0 h1 h2)
  have hb := below1 w (.cells #[.int .i64 f, .int .i64 t] 95)
  have hx1 := hx.up hb
  have hlt := hx1.lt (foot_g x)
  have C0 : ∀ y : UpW (w.alloc (.cells #[.int .i64 f, .int .i64 t] 95)).heap.size (w.alloc (.cells #[.int .i64 f, .int .i64 t] 95)), y.w.cell? ⟨w.heap.size, 0, none⟩ = some (.int .i64 f) := fun y => (y.up.cell (p := ⟨w.heap.size, 0, none⟩) (by simp)).trans (by simp)
  have C1 : ∀ y : UpW (w.alloc (.cells #[.int .i64 f, .int .i64 t] 95)).heap.size (w.alloc (.cells #[.int .i64 f, .int .i64 t] 95)), y.w.cell? ⟨w.heap.size, 1, none⟩ = some (.int .i64 t) := fun y => (y.up.cell (p := ⟨w.heap.size, 1, none⟩) (by simp)).trans (by simp)
  have C2 : ∀ y : UpW (w.alloc (.cells #[.int .i64 f, .int .i64 t] 95)).heap.size (w.alloc (.cells #[.int .i64 f, .int .i64 t] 95)), y.w.cell? ⟨x.g, 1, none⟩ = some (.int .i64 x.f) := fun y => (y.up.cell (p := ⟨x.g, 1, none⟩) hlt).trans (hx1.cell 1 _ rfl)
  have C3 : ∀ y : UpW (w.alloc (.cells #[.int .i64 f, .int .i64 t] 95)).heap.size (w.alloc (.cells #[.int .i64 f, .int .i64 t] 95)), y.w.cell? ⟨x.g, 2, none⟩ = some (.int .i64 x.t) := fun y => (y.up.cell (p := ⟨x.g, 2, none⟩) hlt).trans (hx1.cell 2 _ rfl)
  clear hx hx1 hlt HB1 HB2
  go_enter Tryz.func123, Tryz.ntmps123
  go_wp2
  refine wp_region_up (w.alloc (.cells #[.int .i64 f, .int .i64 t] 95)).heap.size (by kernel_rfl) (by kernel_rfl) ?_
  repeat (go_big_quiet_step ((go_at_call 122; exact Calls.up _ (Nat.le_refl _) (back_any _ _ _ _ (by omega) (by omega) (by omega) (by omega) (by omega)))))
  refine wpQuiet_nil ?_
  rintro ⟨w2, hb2⟩
  dsimp only
  go_wp2
  go_ret2
  exact ⟨rfl, up2 hb hb2⟩
end
end Go.Proofs.YthjkdeocdhdkaaaGreat
