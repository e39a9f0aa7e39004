/- Overlays: the conditions of At and In. -/
import Derived.Test.YthjkdeocdhdkaaaGreatOvR
namespace Go.Proofs.YthjkdeocdhdkaaaGreat
open Go.RowKit
set_option linter.unusedVariables false
set_option linter.unusedSimpArgs false
section
variable {w w' : World} {x : OverE}
def covB (at_ : Int) (x : OverD) : Bool := decide (x.f ≤ at_) && decide (at_ < x.t)
set_option maxHeartbeats 1000000 in
theorem coversC (h : OverIn w x) (at_ : Int) (q : Nat) (hq : w.cell? ⟨q, 0, none⟩ = some (.int .i64 at_)) :
    Calls Tryz.prog 76 #[.pointer (some ⟨x.g, 0, none⟩), .pointer (some ⟨q, 0, none⟩)] w fun e w' => e = .returned (.bool (covB at_ x.dat)) ∧ ∃ n, w' = w.drewN n := by
  have c1 := h.cell 1 _ rfl
  have c2 := h.cell 2 _ rfl
  have hcv : covB at_ x.dat = (decide (x.f ≤ at_) && decide (at_ < x.t)) := rfl
  rw [hcv]
  clear h hcv
  by_cases h1 : x.f ≤ at_
  · have d1 : decide (x.f ≤ at_) = true := decide_eq_true h1
    rw [d1, Bool.true_and]
    clear h1
    go_enter Tryz.func76, Tryz.ntmps76
    go_wp2
    go_quiet (fail)
    go_wp2
    go_ret
    exact ⟨rfl, _, rfl⟩
  · have d1 : decide (x.f ≤ at_) = false := decide_eq_false h1
    rw [d1, Bool.false_and]
    clear h1
    go_enter Tryz.func76, Tryz.ntmps76
    go_wp2
    go_quiet (fail)
    go_wp2
    go_ret
    exact ⟨rfl, _, rfl⟩
theorem covers_any (at_ : Int) (w : World) : Calls Tryz.prog 48 #[.int .i64 at_] w fun e w' => e = .returned (.func (.func 76) #[] #[.pointer (some ⟨w.heap.size, 0, none⟩)]) ∧ w' = w.alloc (.cells #[.int .i64 at_] 3) := by
  go_enter Tryz.func48, Tryz.ntmps48
  go_wp2
  go_ret
  exact ⟨rfl, rfl⟩
theorem enters_covers : Enters 76 := enters_mk Tryz.func76 (by kernel_rfl) rfl
end
end Go.Proofs.YthjkdeocdhdkaaaGreat
