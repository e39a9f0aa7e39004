/- Overlays: where the ends go at an insertion, at a removal. -/
import Derived.Test.YthjkdeocdhdkaaaGreatOvL
namespace Go.Proofs.YthjkdeocdhdkaaaGreat
open Go.RowKit
set_option linter.unusedVariables false
set_option linter.unusedSimpArgs false
section
variable {w w' : World} {x : OverE}
def insF (at_ n f t : Int) (fr re : Bool) : Int := if f = at_ ∧ t = at_ ∧ fr = true ∧ re = false then f else if at_ < f ∨ (f = at_ ∧ fr = true) then f + n else f
def insT (at_ n f t : Int) (fr re : Bool) : Int := if f = at_ ∧ t = at_ ∧ fr = true ∧ re = false then t else if at_ < t ∨ (t = at_ ∧ re = true) then t + n else t
set_option maxRecDepth 100000 in
set_option maxHeartbeats 4000000 in
theorem insEnds (hx : OverIn w x) (at_ n : Int) (hn0 : 0 ≤ n) (hn1 : n ≤ 65536) (hf0 : 1 ≤ x.f) (hf1 : x.f ≤ 1099511627776) (ht0 : 1 ≤ x.t) (ht1 : x.t ≤ 1099511627776) :
    Calls Tryz.prog 66 #[.agg #[.int .i64 at_, .int .i64 n], .pointer (some ⟨x.g, 0, none⟩)] w fun e w' => e = .returned (.tuple #[.int .i64 (insF at_ n x.f x.t x.fr x.re), .int .i64 (insT at_ n x.f x.t x.fr x.re)]) ∧ Below w.heap.size w w' := by
  obtain ⟨id, f, t, fr, re, A, c, ps, g⟩ := x
  have hlt : g < w.heap.size := hx.lt (foot_g _)
  have e1 := hx.cell 1 _ rfl
  have e2 := hx.cell 2 _ rfl
  have e3 := hx.cell 3 _ rfl
  have e4 := hx.cell 4 _ rfl
  dsimp only at e1 e2 e3 e4 hf0 hf1 ht0 ht1 ⊢
  have HF := Lib.hid (rfl : insF at_ n f t fr re = insF at_ n f t fr re)
  clear hx HF
  have hB : ∀ (q : Nat) (w1 : World), w1 = w1 → True := fun _ _ _ => trivial
  clear hB
  rcases Int.lt_trichotomy f at_ with h1 | h1 | h1 <;> rcases Int.lt_trichotomy t at_ with h2 | h2 | h2 <;> cases fr <;> cases re
  · have d1 : (f == at_) = false := by simp; omega
    have d2 : decide (at_ < f) = false := by simp; omega
    have d3 : (t == at_) = false := by simp; omega
    have d4 : decide (at_ < t) = false := by simp; omega
    have a1 : insF at_ n f t false false = f := by unfold insF; simp; omega
    have a2 : insT at_ n f t false false = t := by unfold insT; simp; omega
    rw [a1, a2]
    clear a1 a2 h1 h2
    go_enter Tryz.func66, Tryz.ntmps66
    go_wp2
    go_quiet (fail)
    go_wp2
    go_quiet (fail)
    go_wp2
    go_ret2
    exact ⟨rfl, have b := below1 w (.cells #[.int .i64 at_, .int .i64 n] 100); ⟨b.os, b.tape, b.output, b.size, b.block⟩⟩
  · have d1 : (f == at_) = false := by simp; omega
    have d2 : decide (at_ < f) = false := by simp; omega
    have d3 : (t == at_) = false := by simp; omega
    have d4 : decide (at_ < t) = false := by simp; omega
    have a1 : insF at_ n f t false true = f := by unfold insF; simp; omega
    have a2 : insT at_ n f t false true = t := by unfold insT; simp; omega
    rw [a1, a2]
    clear a1 a2 h1 h2
    go_enter Tryz.func66, Tryz.ntmps66
    go_wp2
    go_quiet (fail)
    go_wp2
    go_quiet (fail)
    go_wp2
    go_ret2
    exact ⟨rfl, have b := below1 w (.cells #[.int .i64 at_, .int .i64 n] 100); ⟨b.os, b.tape, b.output, b.size, b.block⟩⟩
  · have d1 : (f == at_) = false := by simp; omega
    have d2 : decide (at_ < f) = false := by simp; omega
    have d3 : (t == at_) = false := by simp; omega
    have d4 : decide (at_ < t) = false := by simp; omega
    have a1 : insF at_ n f t true false = f := by unfold insF; simp; omega
    have a2 : insT at_ n f t true false = t := by unfold insT; simp; omega
    rw [a1, a2]
    clear a1 a2 h1 h2
    go_enter Tryz.func66, Tryz.ntmps66
    go_wp2
    go_quiet (fail)
    go_wp2
    go_quiet (fail)
    go_wp2
    go_ret2
    exact ⟨rfl, have b := below1 w (.cells #[.int .i64 at_, .int .i64 n] 100); ⟨b.os, b.tape, b.output, b.size, b.block⟩⟩
  · have d1 : (f == at_) = false := by simp; omega
    have d2 : decide (at_ < f) = false := by simp; omega
    have d3 : (t == at_) = false := by simp; omega
    have d4 : decide (at_ < t) = false := by simp; omega
    have a1 : insF at_ n f t true true = f := by unfold insF; simp; omega
    have a2 : insT at_ n f t true true = t := by unfold insT; simp; omega
    rw [a1, a2]
    clear a1 a2 h1 h2
    go_enter Tryz.func66, Tryz.ntmps66
    go_wp2
    go_quiet (fail)
    go_wp2
    go_quiet (fail)
    go_wp2
    go_ret2
    exact ⟨rfl, have b := below1 w (.cells #[.int .i64 at_, .int .i64 n] 100); ⟨b.os, b.tape, b.output, b.size, b.block⟩⟩
  · have d1 : (f == at_) = false := by simp; omega
    have d2 : decide (at_ < f) = false := by simp; omega
    have d3 : (t == at_) = true := by simp; omega
    have d4 : decide (at_ < t) = false := by simp; omega
    have a1 : insF at_ n f t false false = f := by unfold insF; simp; omega
    have a2 : insT at_ n f t false false = t := by unfold insT; simp; omega
    rw [a1, a2]
    clear a1 a2 h1 h2
    go_enter Tryz.func66, Tryz.ntmps66
    go_wp2
    go_quiet (fail)
    go_wp2
    go_quiet (fail)
    go_wp2
    go_ret2
    exact ⟨rfl, have b := below1 w (.cells #[.int .i64 at_, .int .i64 n] 100); ⟨b.os, b.tape, b.output, b.size, b.block⟩⟩
  · have d1 : (f == at_) = false := by simp; omega
    have d2 : decide (at_ < f) = false := by simp; omega
    have d3 : (t == at_) = true := by simp; omega
    have d4 : decide (at_ < t) = false := by simp; omega
    have a1 : insF at_ n f t false true = f := by unfold insF; simp; omega
    have a2 : insT at_ n f t false true = t + n := by unfold insT; simp; omega
    rw [a1, a2]
    clear a1 a2 h1 h2
    go_enter Tryz.func66, Tryz.ntmps66
    go_wp2
    go_quiet (fail)
    go_wp2
    go_quiet (fail)
    go_wp2
    go_ret2
    exact ⟨rfl, have b := below1 w (.cells #[.int .i64 at_, .int .i64 n] 100); ⟨b.os, b.tape, b.output, b.size, b.block⟩⟩
  · have d1 : (f == at_) = false := by simp; omega
    have d2 : decide (at_ < f) = false := by simp; omega
    have d3 : (t == at_) = true := by simp; omega
    have d4 : decide (at_ < t) = false := by simp; omega
    have a1 : insF at_ n f t true false = f := by unfold insF; simp; omega
    have a2 : insT at_ n f t true false = t := by unfold insT; simp; omega
    rw [a1, a2]
    clear a1 a2 h1 h2
    go_enter Tryz.func66, Tryz.ntmps66
    go_wp2
    go_quiet (fail)
    go_wp2
    go_quiet (fail)
    go_wp2
    go_ret2
    exact ⟨rfl, have b := below1 w (.cells #[.int .i64 at_, .int .i64 n] 100); ⟨b.os, b.tape, b.output, b.size, b.block⟩⟩
  · have d1 : (f == at_) = false := by simp; omega
    have d2 : decide (at_ < f) = false := by simp; omega
    have d3 : (t == at_) = true := by simp; omega
    have d4 : decide (at_ < t) = false := by simp; omega
    have a1 : insF at_ n f t true true = f := by unfold insF; simp; omega
    have a2 : insT at_ n f t true true = t + n := by unfold insT; simp; omega
    rw [a1, a2]
    clear a1 a2 h1 h2
    go_enter Tryz.func66, Tryz.ntmps66
    go_wp2
    go_quiet (fail)
    go_wp2
    go_quiet (fail)
    go_wp2
    go_ret2
    exact ⟨rfl, have b := below1 w (.cells #[.int .i64 at_, .int .i64 n] 100); ⟨b.os, b.tape, b.output, b.size, b.block⟩⟩
  · have d1 : (f == at_) = false := by simp; omega
    have d2 : decide (at_ < f) = false := by simp; omega
    have d3 : (t == at_) = false := by simp; omega
    have d4 : decide (at_ < t) = true := by simp; omega
    have a1 : insF at_ n f t false false = f := by unfold insF; simp; omega
    have a2 : insT at_ n f t false false = t + n := by unfold insT; simp; omega
    rw [a1, a2]
    clear a1 a2 h1 h2
    go_enter Tryz.func66, Tryz.ntmps66
    go_wp2
    go_quiet (fail)
    go_wp2
    go_quiet (fail)
    go_wp2
    go_ret2
    exact ⟨rfl, have b := below1 w (.cells #[.int .i64 at_, .int .i64 n] 100); ⟨b.os, b.tape, b.output, b.size, b.block⟩⟩
  · have d1 : (f == at_) = false := by simp; omega
    have d2 : decide (at_ < f) = false := by simp; omega
    have d3 : (t == at_) = false := by simp; omega
    have d4 : decide (at_ < t) = true := by simp; omega
    have a1 : insF at_ n f t false true = f := by unfold insF; simp; omega
    have a2 : insT at_ n f t false true = t + n := by unfold insT; simp; omega
    rw [a1, a2]
    clear a1 a2 h1 h2
    go_enter Tryz.func66, Tryz.ntmps66
    go_wp2
    go_quiet (fail)
    go_wp2
    go_quiet (fail)
    go_wp2
    go_ret2
    exact ⟨rfl, have b := below1 w (.cells #[.int .i64 at_, .int .i64 n] 100); ⟨b.os, b.tape, b.output, b.size, b.block⟩⟩
  · have d1 : (f == at_) = false := by simp; omega
    have d2 : decide (at_ < f) = false := by simp; omega
    have d3 : (t == at_) = false := by simp; omega
    have d4 : decide (at_ < t) = true := by simp; omega
    have a1 : insF at_ n f t true false = f := by unfold insF; simp; omega
    have a2 : insT at_ n f t true false = t + n := by unfold insT; simp; omega
    rw [a1, a2]
    clear a1 a2 h1 h2
    go_enter Tryz.func66, Tryz.ntmps66
    go_wp2
    go_quiet (fail)
    go_wp2
    go_quiet (fail)
    go_wp2
    go_ret2
    exact ⟨rfl, have b := below1 w (.cells #[.int .i64 at_, .int .i64 n] 100); ⟨b.os, b.tape, b.output, b.size, b.block⟩⟩
  · have d1 : (f == at_) = false := by simp; omega
    have d2 : decide (at_ < f) = false := by simp; omega
    have d3 : (t == at_) = false := by simp; omega
    have d4 : decide (at_ < t) = true := by simp; omega
    have a1 : insF at_ n f t true true = f := by unfold insF; simp; omega
    have a2 : insT at_ n f t true true = t + n := by unfold insT; simp; omega
    rw [a1, a2]
    clear a1 a2 h1 h2
    go_enter Tryz.func66, Tryz.ntmps66
    go_wp2
    go_quiet (fail)
    go_wp2
    go_quiet (fail)
    go_wp2
    go_ret2
    exact ⟨rfl, have b := below1 w (.cells #[.int .i64 at_, .int .i64 n] 100); ⟨b.os, b.tape, b.output, b.size, b.block⟩⟩
  · have d1 : (f == at_) = true := by simp; omega
    have d2 : decide (at_ < f) = false := by simp; omega
    have d3 : (t == at_) = false := by simp; omega
    have d4 : decide (at_ < t) = false := by simp; omega
    have a1 : insF at_ n f t false false = f := by unfold insF; simp; omega
    have a2 : insT at_ n f t false false = t := by unfold insT; simp; omega
    rw [a1, a2]
    clear a1 a2 h1 h2
    go_enter Tryz.func66, Tryz.ntmps66
    go_wp2
    go_quiet (fail)
    go_wp2
    go_quiet (fail)
    go_wp2
    go_ret2
    exact ⟨rfl, have b := below1 w (.cells #[.int .i64 at_, .int .i64 n] 100); ⟨b.os, b.tape, b.output, b.size, b.block⟩⟩
  · have d1 : (f == at_) = true := by simp; omega
    have d2 : decide (at_ < f) = false := by simp; omega
    have d3 : (t == at_) = false := by simp; omega
    have d4 : decide (at_ < t) = false := by simp; omega
    have a1 : insF at_ n f t false true = f := by unfold insF; simp; omega
    have a2 : insT at_ n f t false true = t := by unfold insT; simp; omega
    rw [a1, a2]
    clear a1 a2 h1 h2
    go_enter Tryz.func66, Tryz.ntmps66
    go_wp2
    go_quiet (fail)
    go_wp2
    go_quiet (fail)
    go_wp2
    go_ret2
    exact ⟨rfl, have b := below1 w (.cells #[.int .i64 at_, .int .i64 n] 100); ⟨b.os, b.tape, b.output, b.size, b.block⟩⟩
  · have d1 : (f == at_) = true := by simp; omega
    have d2 : decide (at_ < f) = false := by simp; omega
    have d3 : (t == at_) = false := by simp; omega
    have d4 : decide (at_ < t) = false := by simp; omega
    have a1 : insF at_ n f t true false = f + n := by unfold insF; simp; omega
    have a2 : insT at_ n f t true false = t := by unfold insT; simp; omega
    rw [a1, a2]
    clear a1 a2 h1 h2
    go_enter Tryz.func66, Tryz.ntmps66
    go_wp2
    go_quiet (fail)
    go_wp2
    go_quiet (fail)
    go_wp2
    go_ret2
    exact ⟨rfl, have b := below1 w (.cells #[.int .i64 at_, .int .i64 n] 100); ⟨b.os, b.tape, b.output, b.size, b.block⟩⟩
  · have d1 : (f == at_) = true := by simp; omega
    have d2 : decide (at_ < f) = false := by simp; omega
    have d3 : (t == at_) = false := by simp; omega
    have d4 : decide (at_ < t) = false := by simp; omega
    have a1 : insF at_ n f t true true = f + n := by unfold insF; simp; omega
    have a2 : insT at_ n f t true true = t := by unfold insT; simp; omega
    rw [a1, a2]
    clear a1 a2 h1 h2
    go_enter Tryz.func66, Tryz.ntmps66
    go_wp2
    go_quiet (fail)
    go_wp2
    go_quiet (fail)
    go_wp2
    go_ret2
    exact ⟨rfl, have b := below1 w (.cells #[.int .i64 at_, .int .i64 n] 100); ⟨b.os, b.tape, b.output, b.size, b.block⟩⟩
  · have d1 : (f == at_) = true := by simp; omega
    have d2 : decide (at_ < f) = false := by simp; omega
    have d3 : (t == at_) = true := by simp; omega
    have d4 : decide (at_ < t) = false := by simp; omega
    have a1 : insF at_ n f t false false = f := by unfold insF; simp; omega
    have a2 : insT at_ n f t false false = t := by unfold insT; simp; omega
    rw [a1, a2]
    clear a1 a2 h1 h2
    go_enter Tryz.func66, Tryz.ntmps66
    go_wp2
    go_quiet (fail)
    go_wp2
    go_quiet (fail)
    go_wp2
    go_ret2
    exact ⟨rfl, have b := below1 w (.cells #[.int .i64 at_, .int .i64 n] 100); ⟨b.os, b.tape, b.output, b.size, b.block⟩⟩
  · have d1 : (f == at_) = true := by simp; omega
    have d2 : decide (at_ < f) = false := by simp; omega
    have d3 : (t == at_) = true := by simp; omega
    have d4 : decide (at_ < t) = false := by simp; omega
    have a1 : insF at_ n f t false true = f := by unfold insF; simp; omega
    have a2 : insT at_ n f t false true = t + n := by unfold insT; simp; omega
    rw [a1, a2]
    clear a1 a2 h1 h2
    go_enter Tryz.func66, Tryz.ntmps66
    go_wp2
    go_quiet (fail)
    go_wp2
    go_quiet (fail)
    go_wp2
    go_ret2
    exact ⟨rfl, have b := below1 w (.cells #[.int .i64 at_, .int .i64 n] 100); ⟨b.os, b.tape, b.output, b.size, b.block⟩⟩
  · have d1 : (f == at_) = true := by simp; omega
    have d2 : decide (at_ < f) = false := by simp; omega
    have d3 : (t == at_) = true := by simp; omega
    have d4 : decide (at_ < t) = false := by simp; omega
    have a1 : insF at_ n f t true false = f := by unfold insF; simp; omega
    have a2 : insT at_ n f t true false = t := by unfold insT; simp; omega
    rw [a1, a2]
    clear a1 a2 h1 h2
    go_enter Tryz.func66, Tryz.ntmps66
    go_wp2
    go_quiet (fail)
    go_wp2
    go_ret2
    exact ⟨rfl, have b := below1 w (.cells #[.int .i64 at_, .int .i64 n] 100); ⟨b.os, b.tape, b.output, b.size, b.block⟩⟩
  · have d1 : (f == at_) = true := by simp; omega
    have d2 : decide (at_ < f) = false := by simp; omega
    have d3 : (t == at_) = true := by simp; omega
    have d4 : decide (at_ < t) = false := by simp; omega
    have a1 : insF at_ n f t true true = f + n := by unfold insF; simp; omega
    have a2 : insT at_ n f t true true = t + n := by unfold insT; simp; omega
    rw [a1, a2]
    clear a1 a2 h1 h2
    go_enter Tryz.func66, Tryz.ntmps66
    go_wp2
    go_quiet (fail)
    go_wp2
    go_quiet (fail)
    go_wp2
    go_ret2
    exact ⟨rfl, have b := below1 w (.cells #[.int .i64 at_, .int .i64 n] 100); ⟨b.os, b.tape, b.output, b.size, b.block⟩⟩
  · have d1 : (f == at_) = true := by simp; omega
    have d2 : decide (at_ < f) = false := by simp; omega
    have d3 : (t == at_) = false := by simp; omega
    have d4 : decide (at_ < t) = true := by simp; omega
    have a1 : insF at_ n f t false false = f := by unfold insF; simp; omega
    have a2 : insT at_ n f t false false = t + n := by unfold insT; simp; omega
    rw [a1, a2]
    clear a1 a2 h1 h2
    go_enter Tryz.func66, Tryz.ntmps66
    go_wp2
    go_quiet (fail)
    go_wp2
    go_quiet (fail)
    go_wp2
    go_ret2
    exact ⟨rfl, have b := below1 w (.cells #[.int .i64 at_, .int .i64 n] 100); ⟨b.os, b.tape, b.output, b.size, b.block⟩⟩
  · have d1 : (f == at_) = true := by simp; omega
    have d2 : decide (at_ < f) = false := by simp; omega
    have d3 : (t == at_) = false := by simp; omega
    have d4 : decide (at_ < t) = true := by simp; omega
    have a1 : insF at_ n f t false true = f := by unfold insF; simp; omega
    have a2 : insT at_ n f t false true = t + n := by unfold insT; simp; omega
    rw [a1, a2]
    clear a1 a2 h1 h2
    go_enter Tryz.func66, Tryz.ntmps66
    go_wp2
    go_quiet (fail)
    go_wp2
    go_quiet (fail)
    go_wp2
    go_ret2
    exact ⟨rfl, have b := below1 w (.cells #[.int .i64 at_, .int .i64 n] 100); ⟨b.os, b.tape, b.output, b.size, b.block⟩⟩
  · have d1 : (f == at_) = true := by simp; omega
    have d2 : decide (at_ < f) = false := by simp; omega
    have d3 : (t == at_) = false := by simp; omega
    have d4 : decide (at_ < t) = true := by simp; omega
    have a1 : insF at_ n f t true false = f + n := by unfold insF; simp; omega
    have a2 : insT at_ n f t true false = t + n := by unfold insT; simp; omega
    rw [a1, a2]
    clear a1 a2 h1 h2
    go_enter Tryz.func66, Tryz.ntmps66
    go_wp2
    go_quiet (fail)
    go_wp2
    go_quiet (fail)
    go_wp2
    go_ret2
    exact ⟨rfl, have b := below1 w (.cells #[.int .i64 at_, .int .i64 n] 100); ⟨b.os, b.tape, b.output, b.size, b.block⟩⟩
  · have d1 : (f == at_) = true := by simp; omega
    have d2 : decide (at_ < f) = false := by simp; omega
    have d3 : (t == at_) = false := by simp; omega
    have d4 : decide (at_ < t) = true := by simp; omega
    have a1 : insF at_ n f t true true = f + n := by unfold insF; simp; omega
    have a2 : insT at_ n f t true true = t + n := by unfold insT; simp; omega
    rw [a1, a2]
    clear a1 a2 h1 h2
    go_enter Tryz.func66, Tryz.ntmps66
    go_wp2
    go_quiet (fail)
    go_wp2
    go_quiet (fail)
    go_wp2
    go_ret2
    exact ⟨rfl, have b := below1 w (.cells #[.int .i64 at_, .int .i64 n] 100); ⟨b.os, b.tape, b.output, b.size, b.block⟩⟩
  · have d1 : (f == at_) = false := by simp; omega
    have d2 : decide (at_ < f) = true := by simp; omega
    have d3 : (t == at_) = false := by simp; omega
    have d4 : decide (at_ < t) = false := by simp; omega
    have a1 : insF at_ n f t false false = f + n := by unfold insF; simp; omega
    have a2 : insT at_ n f t false false = t := by unfold insT; simp; omega
    rw [a1, a2]
    clear a1 a2 h1 h2
    go_enter Tryz.func66, Tryz.ntmps66
    go_wp2
    go_quiet (fail)
    go_wp2
    go_quiet (fail)
    go_wp2
    go_ret2
    exact ⟨rfl, have b := below1 w (.cells #[.int .i64 at_, .int .i64 n] 100); ⟨b.os, b.tape, b.output, b.size, b.block⟩⟩
  · have d1 : (f == at_) = false := by simp; omega
    have d2 : decide (at_ < f) = true := by simp; omega
    have d3 : (t == at_) = false := by simp; omega
    have d4 : decide (at_ < t) = false := by simp; omega
    have a1 : insF at_ n f t false true = f + n := by unfold insF; simp; omega
    have a2 : insT at_ n f t false true = t := by unfold insT; simp; omega
    rw [a1, a2]
    clear a1 a2 h1 h2
    go_enter Tryz.func66, Tryz.ntmps66
    go_wp2
    go_quiet (fail)
    go_wp2
    go_quiet (fail)
    go_wp2
    go_ret2
    exact ⟨rfl, have b := below1 w (.cells #[.int .i64 at_, .int .i64 n] 100); ⟨b.os, b.tape, b.output, b.size, b.block⟩⟩
  · have d1 : (f == at_) = false := by simp; omega
    have d2 : decide (at_ < f) = true := by simp; omega
    have d3 : (t == at_) = false := by simp; omega
    have d4 : decide (at_ < t) = false := by simp; omega
    have a1 : insF at_ n f t true false = f + n := by unfold insF; simp; omega
    have a2 : insT at_ n f t true false = t := by unfold insT; simp; omega
    rw [a1, a2]
    clear a1 a2 h1 h2
    go_enter Tryz.func66, Tryz.ntmps66
    go_wp2
    go_quiet (fail)
    go_wp2
    go_quiet (fail)
    go_wp2
    go_ret2
    exact ⟨rfl, have b := below1 w (.cells #[.int .i64 at_, .int .i64 n] 100); ⟨b.os, b.tape, b.output, b.size, b.block⟩⟩
  · have d1 : (f == at_) = false := by simp; omega
    have d2 : decide (at_ < f) = true := by simp; omega
    have d3 : (t == at_) = false := by simp; omega
    have d4 : decide (at_ < t) = false := by simp; omega
    have a1 : insF at_ n f t true true = f + n := by unfold insF; simp; omega
    have a2 : insT at_ n f t true true = t := by unfold insT; simp; omega
    rw [a1, a2]
    clear a1 a2 h1 h2
    go_enter Tryz.func66, Tryz.ntmps66
    go_wp2
    go_quiet (fail)
    go_wp2
    go_quiet (fail)
    go_wp2
    go_ret2
    exact ⟨rfl, have b := below1 w (.cells #[.int .i64 at_, .int .i64 n] 100); ⟨b.os, b.tape, b.output, b.size, b.block⟩⟩
  · have d1 : (f == at_) = false := by simp; omega
    have d2 : decide (at_ < f) = true := by simp; omega
    have d3 : (t == at_) = true := by simp; omega
    have d4 : decide (at_ < t) = false := by simp; omega
    have a1 : insF at_ n f t false false = f + n := by unfold insF; simp; omega
    have a2 : insT at_ n f t false false = t := by unfold insT; simp; omega
    rw [a1, a2]
    clear a1 a2 h1 h2
    go_enter Tryz.func66, Tryz.ntmps66
    go_wp2
    go_quiet (fail)
    go_wp2
    go_quiet (fail)
    go_wp2
    go_ret2
    exact ⟨rfl, have b := below1 w (.cells #[.int .i64 at_, .int .i64 n] 100); ⟨b.os, b.tape, b.output, b.size, b.block⟩⟩
  · have d1 : (f == at_) = false := by simp; omega
    have d2 : decide (at_ < f) = true := by simp; omega
    have d3 : (t == at_) = true := by simp; omega
    have d4 : decide (at_ < t) = false := by simp; omega
    have a1 : insF at_ n f t false true = f + n := by unfold insF; simp; omega
    have a2 : insT at_ n f t false true = t + n := by unfold insT; simp; omega
    rw [a1, a2]
    clear a1 a2 h1 h2
    go_enter Tryz.func66, Tryz.ntmps66
    go_wp2
    go_quiet (fail)
    go_wp2
    go_quiet (fail)
    go_wp2
    go_ret2
    exact ⟨rfl, have b := below1 w (.cells #[.int .i64 at_, .int .i64 n] 100); ⟨b.os, b.tape, b.output, b.size, b.block⟩⟩
  · have d1 : (f == at_) = false := by simp; omega
    have d2 : decide (at_ < f) = true := by simp; omega
    have d3 : (t == at_) = true := by simp; omega
    have d4 : decide (at_ < t) = false := by simp; omega
    have a1 : insF at_ n f t true false = f + n := by unfold insF; simp; omega
    have a2 : insT at_ n f t true false = t := by unfold insT; simp; omega
    rw [a1, a2]
    clear a1 a2 h1 h2
    go_enter Tryz.func66, Tryz.ntmps66
    go_wp2
    go_quiet (fail)
    go_wp2
    go_quiet (fail)
    go_wp2
    go_ret2
    exact ⟨rfl, have b := below1 w (.cells #[.int .i64 at_, .int .i64 n] 100); ⟨b.os, b.tape, b.output, b.size, b.block⟩⟩
  · have d1 : (f == at_) = false := by simp; omega
    have d2 : decide (at_ < f) = true := by simp; omega
    have d3 : (t == at_) = true := by simp; omega
    have d4 : decide (at_ < t) = false := by simp; omega
    have a1 : insF at_ n f t true true = f + n := by unfold insF; simp; omega
    have a2 : insT at_ n f t true true = t + n := by unfold insT; simp; omega
    rw [a1, a2]
    clear a1 a2 h1 h2
    go_enter Tryz.func66, Tryz.ntmps66
    go_wp2
    go_quiet (fail)
    go_wp2
    go_quiet (fail)
    go_wp2
    go_ret2
    exact ⟨rfl, have b := below1 w (.cells #[.int .i64 at_, .int .i64 n] 100); ⟨b.os, b.tape, b.output, b.size, b.block⟩⟩
  · have d1 : (f == at_) = false := by simp; omega
    have d2 : decide (at_ < f) = true := by simp; omega
    have d3 : (t == at_) = false := by simp; omega
    have d4 : decide (at_ < t) = true := by simp; omega
    have a1 : insF at_ n f t false false = f + n := by unfold insF; simp; omega
    have a2 : insT at_ n f t false false = t + n := by unfold insT; simp; omega
    rw [a1, a2]
    clear a1 a2 h1 h2
    go_enter Tryz.func66, Tryz.ntmps66
    go_wp2
    go_quiet (fail)
    go_wp2
    go_quiet (fail)
    go_wp2
    go_ret2
    exact ⟨rfl, have b := below1 w (.cells #[.int .i64 at_, .int .i64 n] 100); ⟨b.os, b.tape, b.output, b.size, b.block⟩⟩
  · have d1 : (f == at_) = false := by simp; omega
    have d2 : decide (at_ < f) = true := by simp; omega
    have d3 : (t == at_) = false := by simp; omega
    have d4 : decide (at_ < t) = true := by simp; omega
    have a1 : insF at_ n f t false true = f + n := by unfold insF; simp; omega
    have a2 : insT at_ n f t false true = t + n := by unfold insT; simp; omega
    rw [a1, a2]
    clear a1 a2 h1 h2
    go_enter Tryz.func66, Tryz.ntmps66
    go_wp2
    go_quiet (fail)
    go_wp2
    go_quiet (fail)
    go_wp2
    go_ret2
    exact ⟨rfl, have b := below1 w (.cells #[.int .i64 at_, .int .i64 n] 100); ⟨b.os, b.tape, b.output, b.size, b.block⟩⟩
  · have d1 : (f == at_) = false := by simp; omega
    have d2 : decide (at_ < f) = true := by simp; omega
    have d3 : (t == at_) = false := by simp; omega
    have d4 : decide (at_ < t) = true := by simp; omega
    have a1 : insF at_ n f t true false = f + n := by unfold insF; simp; omega
    have a2 : insT at_ n f t true false = t + n := by unfold insT; simp; omega
    rw [a1, a2]
    clear a1 a2 h1 h2
    go_enter Tryz.func66, Tryz.ntmps66
    go_wp2
    go_quiet (fail)
    go_wp2
    go_quiet (fail)
    go_wp2
    go_ret2
    exact ⟨rfl, have b := below1 w (.cells #[.int .i64 at_, .int .i64 n] 100); ⟨b.os, b.tape, b.output, b.size, b.block⟩⟩
  · have d1 : (f == at_) = false := by simp; omega
    have d2 : decide (at_ < f) = true := by simp; omega
    have d3 : (t == at_) = false := by simp; omega
    have d4 : decide (at_ < t) = true := by simp; omega
    have a1 : insF at_ n f t true true = f + n := by unfold insF; simp; omega
    have a2 : insT at_ n f t true true = t + n := by unfold insT; simp; omega
    rw [a1, a2]
    clear a1 a2 h1 h2
    go_enter Tryz.func66, Tryz.ntmps66
    go_wp2
    go_quiet (fail)
    go_wp2
    go_quiet (fail)
    go_wp2
    go_ret2
    exact ⟨rfl, have b := below1 w (.cells #[.int .i64 at_, .int .i64 n] 100); ⟨b.os, b.tape, b.output, b.size, b.block⟩⟩
end
end Go.Proofs.YthjkdeocdhdkaaaGreat
