import Derived.Test.YtklaeecegkpgmaaGreatDoorSyF
/- package syntax: Over, at the table of Lisp. -/
namespace Go.Proofs.YtklaeecegkpgmaaGreatDoor
open Go.RowKit
set_option linter.unusedVariables false
set_option linter.unusedSimpArgs false
/-- The state of going over a text. -/
structure OvS where
  op : List Nat
  un : Nat
  inn : Nat
  co : Bool
  st : Nat
  qu : Bool
def ovStep (c i : Nat) (S : OvS) : OvS :=
  if S.qu = true then { S with qu := false }
  else if S.inn ≠ 0 then (if lispC c = 7 then { S with qu := true } else if c = S.inn then { S with inn := 0, st := 0 } else S)
  else if S.co = true then (if lispC c = 9 then { S with co := false, st := 0 } else S)
  else if lispC c = 7 then { S with qu := true }
  else if lispC c = 6 then { S with inn := c, st := i }
  else if lispC c = 8 then { S with co := true, st := i }
  else if lispC c = 4 then { S with op := S.op ++ [i] }
  else if lispC c = 5 then { S with op := S.op.dropLast, un := if S.op = [] then S.un + 1 else S.un }
  else S
def ovF (cs : List Nat) : Nat → OvS
  | 0 => ⟨[], 0, 0, false, 0, false⟩
  | n + 1 => ovStep (cs.getD n 0) n (ovF cs n)
theorem ovStep_bd (c i : Nat) (S : OvS) : (ovStep c i S).op.length ≤ S.op.length + 1 ∧ (ovStep c i S).un ≤ S.un + 1 := by
  have hd := List.length_dropLast (xs := S.op)
  unfold ovStep
  repeat' split
  all_goals (refine ⟨?_, ?_⟩ <;> simp <;> (try split) <;> (try omega))
theorem ovF_bd (cs : List Nat) : ∀ n, (ovF cs n).op.length ≤ n ∧ (ovF cs n).un ≤ n
  | 0 => ⟨Nat.le_refl _, Nat.le_refl _⟩
  | n + 1 => by
    have h := ovF_bd cs n
    have h2 := ovStep_bd (cs.getD n 0) n (ovF cs n)
    unfold ovF
    omega
theorem lispC_cases (c : Nat) : lispC c = 0 ∨ lispC c = 1 ∨ lispC c = 2 ∨ lispC c = 3 ∨ lispC c = 4 ∨ lispC c = 5 ∨ lispC c = 6 ∨ lispC c = 7 ∨ lispC c = 8 ∨ lispC c = 9 ∨ lispC c = 10 := by
  unfold lispC lispE
  cases hx : lookM specL c with
  | some x =>
    have hm : ∀ y ∈ specL, y.2.1 = 4 ∨ y.2.1 = 5 ∨ y.2.1 = 6 ∨ y.2.1 = 7 ∨ y.2.1 = 8 ∨ y.2.1 = 9 ∨ y.2.1 = 10 := by decide
    have hin : ∃ y ∈ specL, y.2 = x := by
      unfold lookM at hx
      simp only [Option.map_eq_some_iff] at hx
      obtain ⟨y, hy, rfl⟩ := hx
      exact ⟨y, List.mem_of_find?_eq_some hy, rfl⟩
    obtain ⟨y, hy, rfl⟩ := hin
    have := hm y hy
    simp only []
    omega
  | none =>
    simp only []
    split
    · simp
    · unfold plainC
      split
      · simp
      · split <;> simp
abbrev fnV (F : FuncId) (cp : Array Value) : Value := .func (.func F) #[] cp
abbrev arrC (k9 k12 k14 : Nat) : Array Value := #[fnV 55 #[], .nilFunc, .nilFunc, .nilFunc, fnV 59 #[pAt k9, pAt k14], fnV 60 #[pAt k9], fnV 57 #[pAt k12, pAt k14, pAt k9],
  fnV 56 #[pAt k9], fnV 58 #[pAt k14, pAt k9], .nilFunc, fnV 61 #[]]
/-- What lies in memory while Over goes on. -/
structure OvM (w : World) (B k9 k10 k12 k14 k15 tb bs ms mo : Nat) (cs : List Nat) (A : Option Addr) (cap : Nat) (i : Nat) (S : OvS) (v : Value) : Prop where
  st : Blk w k9 52 (stC v S.un S.inn S.st S.co S.qu)
  own : ROwn encI 3 1 B w v (S.op.map Int.ofNat)
  li : Blk w k12 50 #[.slice A (cs.map Int.ofNat).length cap]
  rs : RSl encI w A (cs.map Int.ofNat)
  at_ : Blk w k14 3 #[.int .i64 i]
  arr : Blk w k15 96 (arrC k9 k12 k14)
  tbl : LspT w tb bs ms mo
  res : Blk w k10 52 (stC (.slice none 0 0) 0 0 0 false false)
  rsb : ∀ g o, A = some ⟨g, o, none⟩ → g < B ∧ g ≠ k9 ∧ g ≠ k14
  hB : B ≤ w.heap.size
  hk : k9 < B ∧ k10 < B ∧ k12 < B ∧ k14 < B ∧ k15 < B ∧ tb < B ∧ bs < B ∧ ms < B ∧ mo < B
  nd : k10 ≠ k9 ∧ k12 ≠ k9 ∧ k14 ≠ k9 ∧ k15 ≠ k9 ∧ tb ≠ k9 ∧ bs ≠ k9 ∧ ms ≠ k9 ∧ mo ≠ k9 ∧ k10 ≠ k14 ∧ k12 ≠ k14 ∧ k15 ≠ k14 ∧ tb ≠ k14 ∧ bs ≠ k14 ∧ ms ≠ k14 ∧ mo ≠ k14
section
variable {w w' : World} {B k9 k10 k12 k14 k15 tb bs ms mo : Nat} {cs : List Nat} {A : Option Addr} {cap i : Nat} {S S' : OvS} {v v' : Value}
theorem OvM.up (h : OvM w B k9 k10 k12 k14 k15 tb bs ms mo cs A cap i S v) (hb : Below w.heap.size w w') : OvM w' B k9 k10 k12 k14 k15 tb bs ms mo cs A cap i S v :=
  ⟨h.st.up hb, h.own.up hb, h.li.up hb, h.rs.up hb, h.at_.up hb, h.arr.up hb, h.tbl.up hb, h.res.up hb, h.rsb, Nat.le_trans h.hB hb.size, h.hk, h.nd⟩
set_option maxHeartbeats 4000000 in
/-- The state turns. -/
theorem OvM.turn (h : OvM w B k9 k10 k12 k14 k15 tb bs ms mo cs A cap i S v) (ho : Only (fun j => j = k9 ∨ B ≤ j) w w') (h1 : Blk w' k9 52 (stC v' S'.un S'.inn S'.st S'.co S'.qu)) (h2 : ROwn encI 3 1 B w' v' (S'.op.map Int.ofNat)) :
    OvM w' B k9 k10 k12 k14 k15 tb bs ms mo cs A cap i S' v' := by
  have hk := h.hk
  have nd := h.nd
  exact ⟨h1, h2, h.li.only ho (by omega), h.rs.kept ho.size (fun g o e => by
    have := h.rsb g o e
    rcases Nat.lt_or_ge g w.heap.size with hg | hg
    · exact ho.block g hg (by omega)
    · have := h.hB; omega), h.at_.only ho (by omega), h.arr.only ho (by omega), h.tbl.only ho (by omega) (by omega) (by omega) (by omega), h.res.only ho (by omega), h.rsb, Nat.le_trans h.hB ho.size, h.hk, h.nd⟩
set_option maxHeartbeats 4000000 in
/-- The index goes on. -/
theorem OvM.next (h : OvM w B k9 k10 k12 k14 k15 tb bs ms mo cs A cap i S v) (j : Nat) : OvM (w.setCell ⟨k14, 0, none⟩ (.int .i64 j)) B k9 k10 k12 k14 k15 tb bs ms mo cs A cap j S v := by
  have hk := h.hk
  have nd := h.nd
  have hh : ∀ k, k ≠ k14 → (w.setCell ⟨k14, 0, none⟩ (.int .i64 j)).heap[k]? = w.heap[k]? := fun k hk => Below.heap_setCell _ _ _ _ hk
  exact ⟨h.st.kept (hh _ (by omega)), h.own.kept (fun g hg => hh _ (by have := h.own.base hg; omega)), h.li.kept (hh _ (by omega)), h.rs.kept (by simp) (fun g o e => hh _ (h.rsb g o e).2.2), h.at_.set (j := 0) (by simp) (.int .i64 j), h.arr.kept (hh _ (by omega)),
    ⟨h.tbl.blk.kept (hh _ (by omega)), h.tbl.cell.kept (hh _ (by omega)), h.tbl.spec.kept (hh _ (by omega)), h.tbl.own.kept (hh _ (by omega))⟩, h.res.kept (hh _ (by omega)), h.rsb, by simpa using h.hB, h.hk, h.nd⟩
end
end Go.Proofs.YtklaeecegkpgmaaGreatDoor
