/- copyistkit.Same at marks and at ints: two slices that read alike. -/
import Derived.Test.YtlnpjdihdemgmaaMkQ
import Derived.Laws.StructEq
namespace Go.Proofs.Ytlnpjdihdemgmaa
open Go.RowKit
set_option linter.unusedVariables false

theorem neqK (i a : Int) (v : Bool) (w : World) : (binOp .neq 47 (.agg #[.int .i64 i, .int .i64 a, .bool v]) (.agg #[.int .i64 i, .int .i64 a, .bool v])).run Try.prog w = .ok (.bool false) w := by
  have u3 := Try.underlying3
  have u4 := Try.underlying4
  have hS : Try.prog.underlying 47 = some (.struct (Try.prog.fieldsOf 47)) := by kernel_rfl
  have hp : Try.prog.stoodInHeld 47 = false := by kernel_rfl
  rw [run_neq_struct, show (10000 : Nat) = 9999 + 1 from rfl, run_equalIn_agg w 9999 47 _ _ hS hp]
  simp only [Program.fieldsOf, Try.underlying47]
  go_simp

set_option maxRecDepth 100000 in
set_option maxHeartbeats 1000000 in
theorem sameK_true {w : World} {A A' : Option Addr} {xs : List (Int × Mk)} (c c' : Nat) (h : RSl encK w A xs) (h' : RSl encK w A' xs) (hl : xs.length ≤ 1000000) :
    Calls Try.prog 23 #[.slice A xs.length c, .slice A' xs.length c'] w fun e w' => e = .returned (.bool true) ∧ Below w.heap.size w w' := by
  have hne : ((xs.length : Int) != (xs.length : Int)) = false := by simp
  go_enter Try.func23, Try.ntmps23
  go_wp2
  clear hne
  go_loopw [5] (fun vi wr => ∃ k : Nat, k ≤ xs.length ∧ vi = .int .i64 k ∧ Below w.heap.size w wr) (fun vi _ => xs.length - (intOf vi).toNat)
  case atStart => exact ⟨0, by omega, rfl, Below.refl _ _⟩
  case round =>
    obtain ⟨k, hk, rfl, hbel⟩ := hrel
    by_cases hlt : k < xs.length
    · obtain ⟨⟨id, at_, adv⟩, hx⟩ : ∃ x, xs[k]? = some x := ⟨_, List.getElem?_eq_getElem hlt⟩
      obtain ⟨g, o, rfl, hg, hc⟩ := (h.up hbel).at_ eltK hx
      obtain ⟨g', o', rfl, hg', hc'⟩ := (h'.up hbel).at_ eltK hx
      have c0 := hc 0 _ rfl
      have c1 := hc 1 _ rfl
      have c2 := hc 2 _ rfl
      have d0 := hc' 0 _ rfl
      have d1 := hc' 1 _ rfl
      have d2 := hc' 2 _ rfl
      simp only [← Nat.add_assoc, Nat.add_zero] at c0 c1 c2 d0 d1 d2
      have hn := neqK id at_ adv
      have hg : Try.prog.eqGuardType Try.prog.depth 47 = false := by kernel_rfl
      have hlt' : (k : Int) < xs.length := by omega
      clear hc hc' hx
      go_wp2
      go_quiet (fail)
      go_wp2
      go_roundw
      case rel => exact ⟨k + 1, by omega, by go_num, ⟨hbel.os, hbel.tape, hbel.output, hbel.size, hbel.block⟩⟩
      case measure => simp [intOf]; omega
    · have hkn : k = xs.length := by omega
      subst hkn
      go_wp2
      go_ret
      exact ⟨rfl, hbel⟩
end Go.Proofs.Ytlnpjdihdemgmaa
