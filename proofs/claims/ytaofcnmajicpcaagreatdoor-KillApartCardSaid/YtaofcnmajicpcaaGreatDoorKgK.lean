/- Registers: the reference in memory; New, char, find, Get, Names. -/
import Derived.Test.YtaofcnmajicpcaaGreatDoorKgJ
import Derived.Test.YtaofcnmajicpcaaGreatDoorOwn
namespace Go.Proofs.YtaofcnmajicpcaaGreatDoor
open Go.RowKit
set_option linter.unusedVariables false
set_option linter.unusedSimpArgs false
abbrev encQ (p : Int × Reg) : List Value := [.int .i64 p.1, .int .i64 p.2.kind, .int .i64 p.2.n, .int .i64 p.2.id, .string p.2.text, .slice p.2.A p.2.rows.length p.2.c]
section
variable {w w' : World} {bo : Nat} {v : Value} {l : List (Int × Reg)}
theorem RegIn.blk_lt {r : Reg} {g : Nat} (h : RegIn w r) (hg : regBlk r g) : g < w.heap.size := by obtain ⟨hp, o, e⟩ := hg; exact h.i.lt hp e
theorem RegIn.only {S : Nat → Prop} {r : Reg} (h : RegIn w r) (ho : Only S w w') (hs : ∀ g, regBlk r g → ¬ S g) : RegIn w' r := ⟨h.i.only ho (fun hp g o e => hs g ⟨hp, o, e⟩), h.l, h.m⟩
/-- How many lie before c. -/
def ixL {α : Type} (l : List (Int × α)) (c : Int) : Nat := (l.takeWhile (fun p => decide (p.1 < c))).length
def isL {α : Type} (l : List (Int × α)) (c : Int) : Bool := match l[ixL l c]? with | some p => p.1 == c | none => false
theorem ixL_le {α : Type} (l : List (Int × α)) (c : Int) : ixL l c ≤ l.length := (List.takeWhile_sublist _).length_le
theorem ixL_eq {α : Type} : ∀ (l : List (Int × α)) (c : Int) (k : Nat), k ≤ l.length → (∀ j x, j < k → l[j]? = some x → x.1 < c) → (∀ x, l[k]? = some x → ¬ x.1 < c) → ixL l c = k
  | [], c, k, hk, _, _ => by simp at hk; subst hk; rfl
  | a :: l, c, 0, hk, _, h => by
    have := h a rfl
    unfold ixL
    rw [List.takeWhile_cons, if_neg (by simpa using this)]; rfl
  | a :: l, c, k + 1, hk, h1, h2 => by
    have h0 := h1 0 a (by omega) rfl
    have ih := ixL_eq l c k (by simpa using hk) (fun j x hj hx => h1 (j + 1) x (by omega) hx) h2
    unfold ixL at ih ⊢
    rw [List.takeWhile_cons, if_pos (by simpa using h0), List.length_cons, ih]
end
end Go.Proofs.YtaofcnmajicpcaaGreatDoor
