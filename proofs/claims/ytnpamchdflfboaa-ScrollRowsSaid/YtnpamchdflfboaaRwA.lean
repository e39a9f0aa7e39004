/- Rows of a window in memory: cells, positions; copyistkit.SameInts, SameCells at what reads alike. -/
import Derived.Test.YtnpamchdflfboaaSeg
import Derived.Test.YtnpamchdflfboaaMix
import Derived.Laws.StructEq
import Derived.IntWalk
import Derived.BigRegion
namespace Go.Proofs.Ytnpamchdflfboaa
open Go.RowKit
set_option linter.unusedVariables false
set_option linter.unusedSimpArgs false
abbrev encI (z : Int) : List Value := [.int .i64 z]
theorem eltI : Elt encI 38 3 1 8 (.int .i64 0) := ⟨Try.underlying38, by kernel_rfl, rfl, by omega, fun _ => rfl, fun x u hu => by simp at hu; subst hu; rfl⟩
/-- A cell of a screen. -/
structure CellE where
  rune : Int
  fore : Int
  back : Int
  bold : Bool
  under : Bool
  inv : Bool
abbrev encC (c : CellE) : List Value := [.int .i64 c.rune, .int .i64 c.fore, .int .i64 c.back, .bool c.bold, .bool c.under, .bool c.inv]
theorem eltC : Elt encC 37 70 6 32 (.agg #[.int .i64 0, .int .i64 0, .int .i64 0, .bool false, .bool false, .bool false]) :=
  ⟨Try.underlying37, by kernel_rfl, rfl, by omega, fun _ => rfl, fun x u hu => by simp at hu; rcases hu with rfl | rfl | rfl | rfl | rfl | rfl <;> rfl⟩
/-- A row: its cells and positions with the slices that hold them. -/
structure RowE where
  A1 : Option Addr
  c1 : Nat
  cs : List CellE
  A2 : Option Addr
  c2 : Nat
  ps : List Int
  from_ : Int
  to : Int
  cont : Bool
abbrev encR (e : RowE) : List Value := [.slice e.A1 e.cs.length e.c1, .slice e.A2 e.ps.length e.c2, .int .i64 e.from_, .int .i64 e.to, .bool e.cont]
theorem eltR : Elt encR 36 40 5 72 (.agg #[.slice none 0 0, .slice none 0 0, .int .i64 0, .int .i64 0, .bool false]) :=
  ⟨Try.underlying36, by kernel_rfl, rfl, by omega, fun _ => rfl, fun x u hu => by simp at hu; rcases hu with rfl | rfl | rfl | rfl | rfl <;> rfl⟩
section
variable {w w' : World} {A A' : Option Addr}
/-- What a row's slices hold. -/
structure InE (w : World) (e : RowE) : Prop where
  i1 : RSl encC w e.A1 e.cs
  i2 : RSl encI w e.A2 e.ps
  l1 : e.cs.length ≤ e.c1
  l2 : e.ps.length ≤ e.c2
  m1 : e.c1 ≤ maxLen
  m2 : e.c2 ≤ maxLen
theorem InE.up {e : RowE} (h : InE w e) (hb : Below w.heap.size w w') : InE w' e := ⟨h.i1.up hb, h.i2.up hb, h.l1, h.l2, h.m1, h.m2⟩
def RowsAt (w : World) (A : Option Addr) (l : List RowE) : Prop := RSl encR w A l ∧ ∀ e ∈ l, InE w e
theorem RowsAt.up {l : List RowE} (h : RowsAt w A l) (hb : Below w.heap.size w w') : RowsAt w' A l := ⟨h.1.up hb, fun e he => (h.2 e he).up hb⟩

set_option maxRecDepth 100000 in
set_option maxHeartbeats 1000000 in
theorem sameI_true {xs : List Int} (c c' : Nat) (h : RSl encI w A xs) (h' : RSl encI w A' xs) (hl : xs.length ≤ 1000000) :
    Calls Try.prog 43 #[.slice A xs.length c, .slice A' xs.length c'] w fun e w' => e = .returned (.bool true) ∧ Below w.heap.size w w' := by
  have hne : ((xs.length : Int) == (xs.length : Int)) = true := by simp
  go_enter Try.func43, Try.ntmps43
  go_wp2
  clear hne
  go_loopw [5, 6] (fun vs vi wr => ∃ k : Nat, k ≤ xs.length ∧ vi = .int .i64 k ∧ vs = .bool true ∧ Below w.heap.size w wr) (fun _ vi _ => xs.length - (intOf vi).toNat)
  case atStart => exact ⟨0, by omega, rfl, rfl, Below.refl _ _⟩
  case round =>
    obtain ⟨k, hk, rfl, rfl, hbel⟩ := hrel
    by_cases hlt : k < xs.length
    · obtain ⟨z, hx⟩ : ∃ x, xs[k]? = some x := ⟨_, List.getElem?_eq_getElem hlt⟩
      obtain ⟨g, o, rfl, hg, hc⟩ := (h.up hbel).at_ eltI hx
      obtain ⟨g', o', rfl, hg', hc'⟩ := (h'.up hbel).at_ eltI hx
      have c0 := hc 0 _ rfl
      have d0 := hc' 0 _ rfl
      simp only [Nat.mul_one, Nat.add_zero] at c0 d0
      have hlt' : (k : Int) < xs.length := by omega
      clear hc hc' hx
      go_wp2
      go_quiet (fail)
      go_wp2
      go_roundw
      case rel => exact ⟨k + 1, by omega, by go_num, rfl, ⟨hbel.os, hbel.tape, hbel.output, hbel.size, hbel.block⟩⟩
      case measure => simp [intOf]; omega
    · have hkn : k = xs.length := by omega
      subst hkn
      go_wp2
      go_ret
      exact ⟨rfl, hbel⟩
theorem eqLook (d : Nat) (b c : Int) (x y z : Bool) (w : World) : (Op.equalIn (d + 2) 68 (.agg #[.int .i64 b, .int .i64 c, .bool x, .bool y, .bool z]) (.agg #[.int .i64 b, .int .i64 c, .bool x, .bool y, .bool z])).run Try.prog w = .ok true w := by
  have u3 := Try.underlying3
  have u4 := Try.underlying4
  have hS : Try.prog.underlying 68 = some (.struct (Try.prog.fieldsOf 68)) := by kernel_rfl
  have hp : Try.prog.stoodInHeld 68 = false := by kernel_rfl
  rw [run_equalIn_agg w (d + 1) 68 _ _ hS hp]
  simp only [Program.fieldsOf, Try.underlying68]
  clear hS hp
  go_simp
theorem eqC (a b c : Int) (x y z : Bool) (w : World) : (binOp .eql 70 (.agg #[.int .i64 a, .int .i64 b, .int .i64 c, .bool x, .bool y, .bool z]) (.agg #[.int .i64 a, .int .i64 b, .int .i64 c, .bool x, .bool y, .bool z])).run Try.prog w = .ok (.bool true) w := by
  have u3 := Try.underlying3
  have u4 := Try.underlying4
  have hS : Try.prog.underlying 70 = some (.struct (Try.prog.fieldsOf 70)) := by kernel_rfl
  have hp : Try.prog.stoodInHeld 70 = false := by kernel_rfl
  have hL := fun w => eqLook 9997 b c x y z w
  rw [run_eql_struct, show (10000 : Nat) = 9999 + 1 from rfl, run_equalIn_agg w 9999 70 _ _ hS hp]
  simp only [Program.fieldsOf, Try.underlying70]
  clear hS hp
  have a68 := Try.isAgg68
  have z68 := Try.sizeOf68
  go_simp
set_option maxRecDepth 100000 in
set_option maxHeartbeats 1000000 in
theorem sameC_true {xs : List CellE} (c c' : Nat) (h : RSl encC w A xs) (h' : RSl encC w A' xs) (hl : xs.length ≤ 1000000) :
    Calls Try.prog 42 #[.slice A xs.length c, .slice A' xs.length c'] w fun e w' => e = .returned (.bool true) ∧ Below w.heap.size w w' := by
  have hne : ((xs.length : Int) == (xs.length : Int)) = true := by simp
  go_enter Try.func42, Try.ntmps42
  go_wp2
  clear hne
  go_loopw [5, 6] (fun vs vi wr => ∃ k : Nat, k ≤ xs.length ∧ vi = .int .i64 k ∧ vs = .bool true ∧ Below w.heap.size w wr) (fun _ vi _ => xs.length - (intOf vi).toNat)
  case atStart => exact ⟨0, by omega, rfl, rfl, Below.refl _ _⟩
  case round =>
    obtain ⟨k, hk, rfl, rfl, hbel⟩ := hrel
    by_cases hlt : k < xs.length
    · obtain ⟨⟨x0, x1, x2, x3, x4, x5⟩, hx⟩ : ∃ x, xs[k]? = some x := ⟨_, List.getElem?_eq_getElem hlt⟩
      obtain ⟨g, o, rfl, hg, hc⟩ := (h.up hbel).at_ eltC hx
      obtain ⟨g', o', rfl, hg', hc'⟩ := (h'.up hbel).at_ eltC hx
      have c0 := hc 0 _ rfl
      have c1 := hc 1 _ rfl
      have c2 := hc 2 _ rfl
      have c3 := hc 3 _ rfl
      have c4 := hc 4 _ rfl
      have c5 := hc 5 _ rfl
      have d0 := hc' 0 _ rfl
      have d1 := hc' 1 _ rfl
      have d2 := hc' 2 _ rfl
      have d3 := hc' 3 _ rfl
      have d4 := hc' 4 _ rfl
      have d5 := hc' 5 _ rfl
      simp only [← Nat.add_assoc, Nat.add_zero] at c0 c1 c2 c3 c4 c5 d0 d1 d2 d3 d4 d5
      have hn := eqC x0 x1 x2 x3 x4 x5
      have hg : Try.prog.eqGuardType Try.prog.depth 70 = false := by kernel_rfl
      have hlt' : (k : Int) < xs.length := by omega
      clear hc hc' hx
      go_wp2
      go_quiet (fail)
      go_wp2
      go_roundw
      case rel => exact ⟨k + 1, by omega, by go_num, rfl, ⟨hbel.os, hbel.tape, hbel.output, hbel.size, hbel.block⟩⟩
      case measure => simp [intOf]; omega
    · have hkn : k = xs.length := by omega
      subst hkn
      go_wp2
      go_ret
      exact ⟨rfl, hbel⟩
end
end Go.Proofs.Ytnpamchdflfboaa
