import Derived.Test.YtcfdalmllegefaaGreatDoorZ20
import Derived.Test.YtcfdalmllegefaaGreatDoorZ02
import Derived.Test.YtcfdalmllegefaaGreatDoorZ11
import Derived.Test.YtcfdalmllegefaaGreatDoorZ03
import Derived.Test.YtcfdalmllegefaaGreatDoorZ09
/- package syntax: Over, at the table of Lisp. -/
namespace Go.Proofs.YtcfdalmllegefaaGreatDoor
open Go.RowKit
set_option linter.unusedVariables false
set_option linter.unusedSimpArgs false
/-- The state of going over a text. -/
structure OvS where
  op : List Nat
  un : Nat
  inn : Nat
  co : Bool
  st : Nat
  qu : Bool
def ovStep (c i : Nat) (S : OvS) : OvS :=
  if S.qu = true then { S with qu := false }
  else if S.inn ≠ 0 then (if lispC c = 7 then { S with qu := true } else if c = S.inn then { S with inn := 0, st := 0 } else S)
  else if S.co = true then (if lispC c = 9 then { S with co := false, st := 0 } else S)
  else if lispC c = 7 then { S with qu := true }
  else if lispC c = 6 then { S with inn := c, st := i }
  else if lispC c = 8 then { S with co := true, st := i }
  else if lispC c = 4 then { S with op := S.op ++ [i] }
  else if lispC c = 5 then { S with op := S.op.dropLast, un := if S.op = [] then S.un + 1 else S.un }
  else S
def ovF (cs : List Nat) : Nat → OvS
  | 0 => ⟨[], 0, 0, false, 0, false⟩
  | n + 1 => ovStep (cs.getD n 0) n (ovF cs n)
theorem ovStep_bd (c i : Nat) (S : OvS) : (ovStep c i S).op.length ≤ S.op.length + 1 ∧ (ovStep c i S).un ≤ S.un + 1 := by
  have hd := List.length_dropLast (xs := S.op)
  unfold ovStep
  repeat' split
  all_goals (refine ⟨?_, ?_⟩ <;> simp <;> (try split) <;> (try omega))
theorem ovF_bd (cs : List Nat) : ∀ n, (ovF cs n).op.length ≤ n ∧ (ovF cs n).un ≤ n
  | 0 => ⟨Nat.le_refl _, Nat.le_refl _⟩
  | n + 1 => by
    have h := ovF_bd cs n
    have h2 := ovStep_bd (cs.getD n 0) n (ovF cs n)
    unfold ovF
    omega
theorem lispC_cases (c : Nat) : lispC c = 0 ∨ lispC c = 1 ∨ lispC c = 2 ∨ lispC c = 3 ∨ lispC c = 4 ∨ lispC c = 5 ∨ lispC c = 6 ∨ lispC c = 7 ∨ lispC c = 8 ∨ lispC c = 9 ∨ lispC c = 10 := by
  unfold lispC lispE
  cases hx : lookM specL c with
  | some x =>
    have hm : ∀ y ∈ specL, y.2.1 = 4 ∨ y.2.1 = 5 ∨ y.2.1 = 6 ∨ y.2.1 = 7 ∨ y.2.1 = 8 ∨ y.2.1 = 9 ∨ y.2.1 = 10 := by decide
    have hin : ∃ y ∈ specL, y.2 = x := by
      unfold lookM at hx
      simp only [Option.map_eq_some_iff] at hx
      obtain ⟨y, hy, rfl⟩ := hx
      exact ⟨y, List.mem_of_find?_eq_some hy, rfl⟩
    obtain ⟨y, hy, rfl⟩ := hin
    have := hm y hy
    simp only []
    omega
  | none =>
    simp only []
    split
    · simp
    · unfold plainC
      split
      · simp
      · split <;> simp
abbrev fnV (F : FuncId) (cp : Array Value) : Value := .func (.func F) #[] cp
abbrev arrC (k9 k12 k14 : Nat) : Array Value := #[fnV 142 #[], .nilFunc, .nilFunc, .nilFunc, fnV 146 #[pAt k9, pAt k14], fnV 147 #[pAt k9], fnV 144 #[pAt k12, pAt k14, pAt k9],
  fnV 143 #[pAt k9], fnV 145 #[pAt k14, pAt k9], .nilFunc, fnV 148 #[]]
/-- What lies in memory while Over goes on. -/
structure OvM (w : World) (B k9 k10 k12 k14 k15 tb bs ms mo : Nat) (cs : List Nat) (A : Option Addr) (cap : Nat) (i : Nat) (S : OvS) (v : Value) : Prop where
  st : Blk w k9 90 (stC v S.un S.inn S.st S.co S.qu)
  own : ROwn encI 3 1 B w v (S.op.map Int.ofNat)
  li : Blk w k12 88 #[.slice A (cs.map Int.ofNat).length cap]
  rs : RSl encI w A (cs.map Int.ofNat)
  at_ : Blk w k14 3 #[.int .i64 i]
  arr : Blk w k15 174 (arrC k9 k12 k14)
  tbl : LspT w tb bs ms mo
  res : Blk w k10 90 (stC (.slice none 0 0) 0 0 0 false false)
  rsb : ∀ g o, A = some ⟨g, o, none⟩ → g < B ∧ g ≠ k9 ∧ g ≠ k14
  hB : B ≤ w.heap.size
  hk : k9 < B ∧ k10 < B ∧ k12 < B ∧ k14 < B ∧ k15 < B ∧ tb < B ∧ bs < B ∧ ms < B ∧ mo < B
  nd : k10 ≠ k9 ∧ k12 ≠ k9 ∧ k14 ≠ k9 ∧ k15 ≠ k9 ∧ tb ≠ k9 ∧ bs ≠ k9 ∧ ms ≠ k9 ∧ mo ≠ k9 ∧ k10 ≠ k14 ∧ k12 ≠ k14 ∧ k15 ≠ k14 ∧ tb ≠ k14 ∧ bs ≠ k14 ∧ ms ≠ k14 ∧ mo ≠ k14
section
variable {w w' : World} {B k9 k10 k12 k14 k15 tb bs ms mo : Nat} {cs : List Nat} {A : Option Addr} {cap i : Nat} {S S' : OvS} {v v' : Value}
theorem OvM.up (h : OvM w B k9 k10 k12 k14 k15 tb bs ms mo cs A cap i S v) (hb : Below w.heap.size w w') : OvM w' B k9 k10 k12 k14 k15 tb bs ms mo cs A cap i S v :=
  ⟨h.st.up hb, h.own.up hb, h.li.up hb, h.rs.up hb, h.at_.up hb, h.arr.up hb, h.tbl.up hb, h.res.up hb, h.rsb, Nat.le_trans h.hB hb.size, h.hk, h.nd⟩
set_option maxHeartbeats 4000000 in
/-- The state turns. -/
theorem OvM.turn (h : OvM w B k9 k10 k12 k14 k15 tb bs ms mo cs A cap i S v) (ho : Only (fun j => j = k9 ∨ B ≤ j) w w') (h1 : Blk w' k9 90 (stC v' S'.un S'.inn S'.st S'.co S'.qu)) (h2 : ROwn encI 3 1 B w' v' (S'.op.map Int.ofNat)) :
    OvM w' B k9 k10 k12 k14 k15 tb bs ms mo cs A cap i S' v' := by
  have hk := h.hk
  have nd := h.nd
  exact ⟨h1, h2, h.li.only ho (by omega), h.rs.kept ho.size (fun g o e => by
    have := h.rsb g o e
    rcases Nat.lt_or_ge g w.heap.size with hg | hg
    · exact ho.block g hg (by omega)
    · have := h.hB; omega), h.at_.only ho (by omega), h.arr.only ho (by omega), h.tbl.only ho (by omega) (by omega) (by omega) (by omega), h.res.only ho (by omega), h.rsb, Nat.le_trans h.hB ho.size, h.hk, h.nd⟩
set_option maxHeartbeats 4000000 in
/-- The index goes on. -/
theorem OvM.next (h : OvM w B k9 k10 k12 k14 k15 tb bs ms mo cs A cap i S v) (j : Nat) : OvM (w.setCell ⟨k14, 0, none⟩ (.int .i64 j)) B k9 k10 k12 k14 k15 tb bs ms mo cs A cap j S v := by
  have hk := h.hk
  have nd := h.nd
  have hh : ∀ k, k ≠ k14 → (w.setCell ⟨k14, 0, none⟩ (.int .i64 j)).heap[k]? = w.heap[k]? := fun k hk => Below.heap_setCell _ _ _ _ hk
  exact ⟨h.st.kept (hh _ (by omega)), h.own.kept (fun g hg => hh _ (by have := h.own.base hg; omega)), h.li.kept (hh _ (by omega)), h.rs.kept (by simp) (fun g o e => hh _ (h.rsb g o e).2.2), h.at_.set (j := 0) (by simp) (.int .i64 j), h.arr.kept (hh _ (by omega)),
    ⟨h.tbl.blk.kept (hh _ (by omega)), h.tbl.cell.kept (hh _ (by omega)), h.tbl.spec.kept (hh _ (by omega)), h.tbl.own.kept (hh _ (by omega))⟩, h.res.kept (hh _ (by omega)), h.rsb, by simpa using h.hB, h.hk, h.nd⟩
end
end Go.Proofs.YtcfdalmllegefaaGreatDoor
/- package column: body, of any name. -/
namespace Go.Proofs.YtcfdalmllegefaaGreatDoor
open Go.RowKit Go.Lib
set_option linter.unusedVariables false
set_option linter.unusedSimpArgs false
def defB (s : ByteArray) : Bool := decide (3 ≤ s.size) && ((s.extract 0 3).toList == [100, 101, 102])
def nameB (s : ByteArray) : Bool :=
  decide (s.toList = [108, 101, 116]) || decide (s.toList = [108, 101, 116, 42]) || decide (s.toList = [108, 97, 109, 98, 100, 97]) || decide (s.toList = [119, 104, 101, 110]) || decide (s.toList = [117, 110, 108, 101, 115, 115]) || decide (s.toList = [119, 104, 105, 108, 101]) || decide (s.toList = [100, 111, 108, 105, 115, 116]) || decide (s.toList = [100, 111, 116, 105, 109, 101, 115]) || decide (s.toList = [99, 97, 116, 99, 104]) || decide (s.toList = [117, 110, 119, 105, 110, 100, 45, 112, 114, 111, 116, 101, 99, 116]) || decide (s.toList = [99, 111, 110, 100, 105, 116, 105, 111, 110, 45, 99, 97, 115, 101]) || decide (s.toList = [112, 114, 111, 103, 110]) || decide (s.toList = [115, 97, 118, 101, 45, 101, 120, 99, 117, 114, 115, 105, 111, 110]) || decide (s.toList = [115, 97, 118, 101, 45, 114, 101, 115, 116, 114, 105, 99, 116, 105, 111, 110])
/-- Whether a form of a name has a body. -/
def bodyB (s : ByteArray) : Bool := defB s || nameB s
section
variable {w w' : World}
set_option maxHeartbeats 2000000 in
theorem hpre0 (s : ByteArray) (w : World) : Calls Tryz.prog 219 #[.string s, .string ⟨#[100, 101, 102]⟩] w fun e w' => e = .returned (.bool (defB s)) ∧ w = w' := by
  by_cases h : 3 ≤ s.size
  · obtain ⟨u, hu⟩ : ∃ u, u = defB s := ⟨_, rfl⟩
    rw [← hu]
    have d1 : decide ((3 : Int) ≤ (s.size : Int)) = true := decide_eq_true (by omega)
    by_cases hq : (s.extract 0 3).toList = [100, 101, 102]
    · have e : u = true := by rw [hu]; unfold defB; rw [hq]; simp [h]
      subst e
      clear hu
      go_enter Tryz.func219, Tryz.ntmps219
      go_wp2_with fail
      go_ret
      exact ⟨rfl, rfl⟩
    · have e : u = false := by rw [hu]; unfold defB; simp [h, hq]
      subst e
      clear hu
      have e1 : ((s.extract 0 3).toList == [100, 101, 102]) = false := beq_eq_false_iff_ne.2 hq
      have e2 : ((s.extract 0 3).toList = [100, 101, 102]) = False := eq_false hq
      go_enter Tryz.func219, Tryz.ntmps219
      go_wp2_with fail
      go_ret
      exact ⟨rfl, rfl⟩
  · have e : defB s = false := by unfold defB; rw [decide_eq_false h]; rfl
    have d1 : decide ((3 : Int) ≤ (s.size : Int)) = false := decide_eq_false (by omega)
    rw [e]
    clear e
    go_enter Tryz.func219, Tryz.ntmps219
    go_wp2_with fail
    go_ret
    exact ⟨rfl, rfl⟩
set_option maxHeartbeats 2000000 in
theorem hpre (s : ByteArray) (w : World) : Calls Tryz.prog 136 #[.string s, .string ⟨#[100, 101, 102]⟩] w fun e w' => e = .returned (.bool (defB s)) ∧ w = w' := by
  have H := Lib.hid (hpre0 s w)
  generalize defB s = u at *
  go_enter Tryz.func136, Tryz.ntmps136
  go_wp2_with fail
  refine H.out.mono ?_
  rintro e w1 ⟨rfl, rfl⟩
  go_wp2_with fail
  go_ret
  exact ⟨rfl, rfl⟩
set_option maxHeartbeats 4000000 in
theorem cbody_ok (s : ByteArray) (w : World) : Calls Tryz.prog 64 #[.string s] w fun e w' => e = .returned (.bool (bodyB s)) ∧ w = w' := by
  have H := Lib.hid (hpre s w)
  cases hd : defB s with
  | true =>
    have e : bodyB s = true := by unfold bodyB; rw [hd]; rfl
    rw [e]
    rw [hd] at H
    clear e hd
    go_enter Tryz.func64, Tryz.ntmps64
    go_wp2_with fail
    refine H.out.mono ?_
    rintro e w1 ⟨rfl, rfl⟩
    go_wp2_with fail
    go_ret
    exact ⟨rfl, rfl⟩
  | false =>
    have e : bodyB s = nameB s := by unfold bodyB; rw [hd]; rfl
    rw [e]
    rw [hd] at H
    clear e hd
    obtain ⟨u, hu⟩ : ∃ u, u = nameB s := ⟨_, rfl⟩
    have HU := Lib.hid hu
    rw [← hu]
    clear hu
    go_enter Tryz.func64, Tryz.ntmps64
    go_wp2_with fail
    refine H.out.mono ?_
    rintro e w1 ⟨rfl, rfl⟩
    go_wp2_with fail
    all_goals
      go_ret
      refine ⟨ret_bool ?_, rfl⟩
      rw [HU.out]; unfold nameB
      simp only [beq_iff_eq, beq_eq_false_iff_ne] at *
      simp_all
end
end Go.Proofs.YtcfdalmllegefaaGreatDoor
/- package column: what Lisp answers, in plain Lean. -/
namespace Go.Proofs.YtcfdalmllegefaaGreatDoor
open Go.RowKit Go.Lib
set_option linter.unusedVariables false
set_option linter.unusedSimpArgs false
/-- The first position from i on, within n, whose character is neither of a word nor of a symbol. -/
def wordF (cs : List Nat) : Nat → Nat → Nat
  | 0, i => i
  | n + 1, i => if lispC (chr cs i) = 1 ∨ lispC (chr cs i) = 2 then wordF cs n (i + 1) else i
theorem wordF_is (cs : List Nat) : ∀ n i, i ≤ wordF cs n i ∧ wordF cs n i ≤ i + n ∧ (∀ j, i ≤ j → j < wordF cs n i → lispC (chr cs j) = 1 ∨ lispC (chr cs j) = 2) ∧ (wordF cs n i = i + n ∨ ¬ (lispC (chr cs (wordF cs n i)) = 1 ∨ lispC (chr cs (wordF cs n i)) = 2))
  | 0, i => ⟨Nat.le_refl _, Nat.le_refl _, fun j h1 h2 => by unfold wordF at h2; omega, .inl rfl⟩
  | n + 1, i => by
    unfold wordF
    split
    · rename_i h
      obtain ⟨a1, a2, a3, a4⟩ := wordF_is cs n (i + 1)
      refine ⟨by omega, by omega, fun j h1 h2 => ?_, ?_⟩
      · by_cases e : j = i
        · subst e; exact h
        · exact a3 j (by omega) h2
      · exact a4.elim (fun e => .inl (by omega)) .inr
    · rename_i h
      exact ⟨Nat.le_refl _, by omega, fun j h1 h2 => by omega, .inr h⟩
theorem wordF_ext {cs ds : List Nat} : ∀ n i, (∀ j, i ≤ j → j < i + n → chr cs j = chr ds j) → wordF cs n i = wordF ds n i
  | 0, i, _ => rfl
  | n + 1, i, h => by
    unfold wordF
    rw [h i (Nat.le_refl _) (by omega), wordF_ext n (i + 1) (fun j h1 h2 => h j (by omega) (by omega))]
theorem indF_ext {cs ds : List Nat} : ∀ n i, (∀ j, i ≤ j → j < i + n → chr cs j = chr ds j) → indF cs n i = indF ds n i
  | 0, i, _ => rfl
  | n + 1, i, h => by
    unfold indF
    rw [h i (Nat.le_refl _) (by omega), indF_ext n (i + 1) (fun j h1 h2 => h j (by omega) (by omega))]
/-- Behind an open delimiter at p, on whose line e ends. -/
def wordAt (cs : List Nat) (e p : Nat) : Nat := wordF cs (e - (p + 1)) (p + 1)
def formAt (cs : List Nat) (e p : Nat) : Nat := indF cs (e - wordAt cs e p) (wordAt cs e p)
def openV (cs : List Nat) (lo hi tab p : Nat) : Nat :=
  if wordAt cs (lineE cs hi p) p = p + 1 then colN widN cs tab (lineB cs lo p) p + 1
  else if bodyB (encS (subL cs (p + 1) (wordAt cs (lineE cs hi p) p))) = true then colN widN cs tab (lineB cs lo p) p + 2
  else if formAt cs (lineE cs hi p) p < lineE cs hi p ∧ ¬ lispC (chr cs (formAt cs (lineE cs hi p) p)) = 8 then colN widN cs tab (lineB cs lo (formAt cs (lineE cs hi p) p)) (formAt cs (lineE cs hi p) p)
  else colN widN cs tab (lineB cs lo p) p + 1
/-- What Lisp answers. -/
def lispV (cs : List Nat) (lo hi tab k : Nat) : Nat :=
  if ¬ (ovF (subL cs lo (lineB cs lo k)) (lineB cs lo k - lo)).inn = 0 then colN widN cs tab (lineB cs lo (indN cs (lineB cs lo k) (lineE cs hi k))) (indN cs (lineB cs lo k) (lineE cs hi k))
  else if (ovF (subL cs lo (lineB cs lo k)) (lineB cs lo k - lo)).op = [] then 0
  else openV cs lo hi tab (lo + (ovF (subL cs lo (lineB cs lo k)) (lineB cs lo k - lo)).op.getLastD 0)
/-! ### the open delimiters -/
theorem ovStep_op (c i : Nat) (S : OvS) : (ovStep c i S).op = S.op ∨ (lispC c = 4 ∧ (ovStep c i S).op = S.op ++ [i]) ∨ (ovStep c i S).op = S.op.dropLast := by
  unfold ovStep
  repeat' split
  all_goals simp_all
theorem ovF_op (cs : List Nat) : ∀ n, ∀ q ∈ (ovF cs n).op, q < n ∧ lispC (cs.getD q 0) = 4
  | 0, q, h => by simp [ovF] at h
  | n + 1, q, h => by
    have ih := ovF_op cs n
    unfold ovF at h
    rcases ovStep_op (cs.getD n 0) n (ovF cs n) with e | ⟨hc, e⟩ | e
    · rw [e] at h
      have := ih q h; omega
    · rw [e, List.mem_append, List.mem_singleton] at h
      rcases h with h | rfl
      · have := ih q h; omega
      · exact ⟨by omega, hc⟩
    · rw [e] at h
      have := ih q (List.dropLast_subset _ h); omega
theorem ovF_ext {cs ds : List Nat} : ∀ n, (∀ j, j < n → cs.getD j 0 = ds.getD j 0) → ovF cs n = ovF ds n
  | 0, _ => rfl
  | n + 1, h => by
    unfold ovF
    rw [h n (by omega), ovF_ext n (fun j hj => h j (by omega))]
end Go.Proofs.YtcfdalmllegefaaGreatDoor
/- package syntax: Over, at the table of Lisp. -/
namespace Go.Proofs.YtcfdalmllegefaaGreatDoor
open Go.RowKit
set_option linter.unusedVariables false
set_option linter.unusedSimpArgs false
def idxOf (w : World) (k : Nat) : Nat := match w.cell? ⟨k, 0, none⟩ with
  | some (.int _ n) => n.toNat
  | _ => 0
theorem idxOf_eq {w : World} {k i : Nat} (h : Blk w k 3 #[.int .i64 i]) : idxOf w k = i := by
  unfold idxOf
  rw [h.cell (j := 0) rfl]; simp
theorem neqF (F : FuncId) (cp : Array Value) (w : World) : (binOp .neq 1 (.func (.func F) #[] cp) .nilFunc).run Tryz.prog w = .ok (.bool true) w := by kernel_rfl
theorem neqN (w : World) : (binOp .neq 1 .nilFunc .nilFunc).run Tryz.prog w = .ok (.bool false) w := by kernel_rfl
section
variable {w w' : World} {tb bs ms mo : Nat}
set_option maxRecDepth 100000 in
set_option maxHeartbeats 8000000 in
theorem over_ok {N : Nat} (hT : Tabs N w) (h : LspT w tb bs ms mo) (t : ByteArray) (hs : t.size ≤ 190) (hv : (charsD t.data.toList).isSome = true) (tp : Nat) (hto : tp ≤ (chrs t).length) :
    Calls Tryz.prog 60 #[pAt tb, .string t, .int .i64 0, .int .i64 tp, .agg (stC (.slice none 0 0) 0 0 0 false false)] w fun r w' => ∃ v, r = .returned (.tuple #[.agg (stC v (ovF (chrs t) tp).un (ovF (chrs t) tp).inn (ovF (chrs t) tp).st (ovF (chrs t) tp).co (ovF (chrs t) tp).qu), .int .i64 0]) ∧ ROwn encI 3 1 w.heap.size w' v ((ovF (chrs t) tp).op.map Int.ofNat) ∧ Below w.heap.size w w' := by
  have hlen := chrs_len t
  have hin1 : ∀ (args : Array Value) (w : World), (callFunc 142 args).run Tryz.prog w = .ok (.enter 142 args) w := enters_mk Tryz.func142 (by kernel_rfl) rfl
  have hin2 : ∀ (args : Array Value) (w : World), (callFunc 143 args).run Tryz.prog w = .ok (.enter 143 args) w := enters_mk Tryz.func143 (by kernel_rfl) rfl
  have hin3 : ∀ (args : Array Value) (w : World), (callFunc 144 args).run Tryz.prog w = .ok (.enter 144 args) w := enters_mk Tryz.func144 (by kernel_rfl) rfl
  have hin4 : ∀ (args : Array Value) (w : World), (callFunc 145 args).run Tryz.prog w = .ok (.enter 145 args) w := enters_mk Tryz.func145 (by kernel_rfl) rfl
  have hin5 : ∀ (args : Array Value) (w : World), (callFunc 146 args).run Tryz.prog w = .ok (.enter 146 args) w := enters_mk Tryz.func146 (by kernel_rfl) rfl
  have hin6 : ∀ (args : Array Value) (w : World), (callFunc 147 args).run Tryz.prog w = .ok (.enter 147 args) w := enters_mk Tryz.func147 (by kernel_rfl) rfl
  have hin7 : ∀ (args : Array Value) (w : World), (callFunc 148 args).run Tryz.prog w = .ok (.enter 148 args) w := enters_mk Tryz.func148 (by kernel_rfl) rfl
  have nq0 := neqN
  have hbx := below2 w (.cells (stC (.slice none 0 0) 0 0 0 false false) 90) (.cells (stC (.slice none 0 0) 0 0 0 false false) 90)
  have k9 := (Blk.made w 90 (stC (.slice none 0 0) 0 0 0 false false)).up (below1 _ (.cells (stC (.slice none 0 0) 0 0 0 false false) 90))
  have k10 := Blk.made (w.alloc (.cells (stC (.slice none 0 0) 0 0 0 false false) 90)) 90 (stC (.slice none 0 0) 0 0 0 false false)
  have e1 : (w.alloc (.cells (stC (.slice none 0 0) 0 0 0 false false) 90)).heap.size = w.heap.size + 1 := by simp
  rw [e1] at k10
  have HT := Lib.hid (hT.up hbx)
  have H := Lib.hid (h.up hbx)
  have HBX := Lib.hid hbx
  have HK9 := Lib.hid k9
  have HK10 := Lib.hid k10
  have htb : tb < w.heap.size ∧ bs < w.heap.size ∧ ms < w.heap.size ∧ mo < w.heap.size := ⟨h.blk.lt, h.cell.lt, h.spec.lt, h.own.lt⟩
  have HV := Lib.hid hv
  obtain ⟨cs, hcs⟩ : ∃ cs, cs = chrs t := ⟨_, rfl⟩
  have HCI : Hid (∀ c ∈ cs, isN c) := Lib.hid (hcs ▸ chrs_isN t)
  rw [← hcs] at hlen hto ⊢
  have HC := Lib.hid hcs
  obtain ⟨n, hn⟩ : ∃ n, n = cs.length := ⟨_, rfl⟩
  rw [← hn] at hlen hto
  have HN := Lib.hid hn
  clear hT h hbx k9 k10 e1 hv hcs hn
  go_enter Tryz.func60, Tryz.ntmps60
  go_wp2_with fail
  have hz2 : w.heap.size + 2 ≤ ((w.alloc (.cells (stC (.slice none 0 0) 0 0 0 false false) 90)).alloc (.cells (stC (.slice none 0 0) 0 0 0 false false) 90)).heap.size := by simp
  generalize (w.alloc (.cells (stC (.slice none 0 0) 0 0 0 false false) 90)).alloc (.cells (stC (.slice none 0 0) 0 0 0 false false) 90) = W at *
  refine (chars_ok HT.out H.out t (by omega) HV.out).mono ?_
  rintro e w1 ⟨v, rfl, hown, hb1⟩
  obtain ⟨A, cap, hv', _, _, hRS⟩ := hown.shape eltI
  rw [← HC.out] at hown hRS hv'
  rw [List.length_map, ← HN.out] at hv'
  subst hv'
  have hrsb : ∀ g o, A = some ⟨g, o, none⟩ → W.heap.size ≤ g ∧ g < w1.heap.size := fun g o e => by
    have hg : (Value.slice A n cap).ownBlock = some g := by rw [e]; rfl
    exact ⟨hown.base hg, hown.lt hg⟩
  have z1 := hb1.size
  have H1 := Lib.hid (H.out.up hb1)
  have B1 := Lib.hid (up2 HBX.out hb1)
  have K9 := Lib.hid (HK9.out.up hb1)
  have K10 := Lib.hid (HK10.out.up hb1)
  have RS1 := Lib.hid hRS
  have RSB := Lib.hid hrsb
  clear hRS hown hb1 hrsb H HT HBX HK9 HK10 HV
  have d1 : (n < tp) = False := by simp; omega
  have q0 := K9.out.cell (j := 0) rfl
  have f0 := K9.out.fz 0
  have hl9 : w.heap.size < w1.heap.size := by omega
  go_wp2_with fail
  refine (clone0 _).mono ?_
  rintro e w2 ⟨rfl, rfl⟩
  go_wp2_with fail
  have e9 : Blk (w1.setCell ⟨w.heap.size, 0, none⟩ (.slice none 0 0)) w.heap.size 90 (stC (.slice none 0 0) 0 0 0 false false) := K9.out.set (j := 0) (by simp) (.slice none 0 0)
  have hh : ∀ k, k ≠ w.heap.size → (w1.setCell ⟨w.heap.size, 0, none⟩ (.slice none 0 0)).heap[k]? = w1.heap[k]? := fun k hk => Below.heap_setCell _ _ _ _ hk
  have e10 := K10.out.kept (hh (w.heap.size + 1) (by omega))
  have eT : LspT (w1.setCell ⟨w.heap.size, 0, none⟩ (.slice none 0 0)) tb bs ms mo := ⟨H1.out.blk.kept (hh _ (by omega)), H1.out.cell.kept (hh _ (by omega)), H1.out.spec.kept (hh _ (by omega)), H1.out.own.kept (hh _ (by omega))⟩
  have eR : RSl encI (w1.setCell ⟨w.heap.size, 0, none⟩ (.slice none 0 0)) A (cs.map Int.ofNat) := RS1.out.kept (by simp) (fun g o e => hh g (by have := RSB.out g o e; omega))
  have eB : Below w.heap.size w (w1.setCell ⟨w.heap.size, 0, none⟩ (.slice none 0 0)) := B1.out.setCell (p := ⟨w.heap.size, 0, none⟩) (Nat.le_refl _) _
  have eS : (w1.setCell ⟨w.heap.size, 0, none⟩ (.slice none 0 0)).heap.size = w1.heap.size := by simp
  generalize w1.setCell ⟨w.heap.size, 0, none⟩ (.slice none 0 0) = X0 at *
  have b1 := below1 X0 (.cells #[.slice A n cap] 88)
  have m12 := Blk.made X0 88 #[.slice A n cap]
  have y1 : (X0.alloc (.cells #[.slice A n cap] 88)).heap.size = w1.heap.size + 1 := by simp [eS]
  rw [eS] at m12
  generalize X0.alloc (.cells #[.slice A n cap] 88) = X1 at *
  have b2 := below1 X1 (.cells #[.int .i64 0] 3)
  have m14 := Blk.made X1 3 #[.int .i64 0]
  have y2 : (X1.alloc (.cells #[.int .i64 0] 3)).heap.size = w1.heap.size + 1 + 1 := by simp [y1]
  rw [y1] at m14
  generalize X1.alloc (.cells #[.int .i64 0] 3) = X2 at *
  have b3 := below1 X2 (.cells (arrC w.heap.size w1.heap.size (w1.heap.size + 1)) 174)
  have m15 := Blk.made X2 174 (arrC w.heap.size w1.heap.size (w1.heap.size + 1))
  have y3 : (X2.alloc (.cells (arrC w.heap.size w1.heap.size (w1.heap.size + 1)) 174)).heap.size = w1.heap.size + 1 + 1 + 1 := by simp [y2]
  rw [y2] at m15
  have b13 : Below X0.heap.size X0 (X2.alloc (.cells (arrC w.heap.size w1.heap.size (w1.heap.size + 1)) 174)) := up2 b1 (up2 b2 b3)
  have hM0 : OvM (X2.alloc (.cells (arrC w.heap.size w1.heap.size (w1.heap.size + 1)) 174)) (w1.heap.size + 1 + 1 + 1) w.heap.size (w.heap.size + 1) w1.heap.size (w1.heap.size + 1) (w1.heap.size + 1 + 1) tb bs ms mo cs A cap 0 (ovF cs 0) (.slice none 0 0) :=
    ⟨e9.up b13, ROwn.nil _ _, by rw [List.length_map, ← HN.out]; exact (m12.up b2).up b3, eR.up b13, m14.up b3, m15, eT.up b13, e10.up b13, fun g o e => by have := RSB.out g o e; omega, by rw [y3]; exact Nat.le_refl _, by omega, by omega⟩
  have HM0 := Lib.hid hM0
  have BE := Lib.hid (eB.trans (b13.mono (by have := eB.size; omega)))
  have HRB := Lib.hid hz2
  clear e9 hh e10 eT eR eB b1 m12 y1 b2 m14 y2 b3 m15 y3 b13 hM0 eS q0 f0 K9 K10 H1 B1 RS1 RSB
  generalize X2.alloc (.cells (arrC w.heap.size w1.heap.size (w1.heap.size + 1)) 174) = W0 at *
  have hMz : w.heap.size + 2 ≤ w1.heap.size := by omega
  clear hl9 z1 hz2
  generalize w1.heap.size = M at *
  go_loopw [16] (fun _ wr => ∃ (i : Nat) (v : Value), i ≤ tp ∧ OvM wr (M + 1 + 1 + 1) w.heap.size (w.heap.size + 1) M (M + 1) (M + 1 + 1) tb bs ms mo cs A cap i (ovF cs i) v ∧ Below w.heap.size w wr) (fun _ wr => tp - idxOf wr (M + 1))
  case atStart => exact ⟨0, _, Nat.zero_le _, HM0.out, BE.out⟩
  case round =>
    clear HM0 BE
    obtain ⟨i, v, hi, hm, hbel⟩ := hrel
    have HM := Lib.hid hm
    have HB := Lib.hid hbel
    have a0 : wr.cell? ⟨M + 1, 0, none⟩ = some (.int .i64 (i : Int)) := hm.at_.cell (j := 0) rfl
    have hix := idxOf_eq hm.at_
    rw [hix]
    clear hix hm hbel
    by_cases hlt : i < tp
    · have dlt : (i < tp) = True := eq_true hlt
      have hic : i < cs.length := by have := HN.out; omega
      obtain ⟨j1, hj1⟩ : ∃ j1, j1 = i + 1 := ⟨_, rfl⟩
      obtain ⟨c, hc⟩ : ∃ c, c = cs.getD i 0 := ⟨_, rfl⟩
      have hcg : cs[i]? = some c := by rw [hc, List.getD_eq_getElem?_getD, List.getElem?_eq_getElem hic]; rfl
      have hx : (cs.map Int.ofNat)[i]? = some (c : Int) := by rw [List.getElem?_map, hcg]; rfl
      have hcN : isN c := HCI.out c (List.mem_of_getElem? hcg)
      obtain ⟨g, o, hA, hg, hat⟩ := HM.out.rs.at_ eltI hx
      have k0 := hat 0 _ rfl
      rw [Nat.mul_one, Nat.add_zero] at k0
      subst hA
      have l0 : wr.cell? ⟨M, 0, none⟩ = some (.slice (some ⟨g, o, none⟩) n cap) := by
        have := HM.out.li.cell (j := 0) rfl
        rw [List.length_map, ← HN.out] at this
        exact this
      have hin' : (i : Int) < n := by have := HN.out; omega
      obtain ⟨kv, hkv⟩ : ∃ kv, lispC c = kv := ⟨_, rfl⟩
      have HCL := Lib.hid (class_ok HM.out.tbl c hcN)
      rw [hkv] at HCL
      have HKV := Lib.hid hkv
      have hkc : kv = 0 ∨ kv = 1 ∨ kv = 2 ∨ kv = 3 ∨ kv = 4 ∨ kv = 5 ∨ kv = 6 ∨ kv = 7 ∨ kv = 8 ∨ kv = 9 ∨ kv = 10 := hkv ▸ lispC_cases c
      have HKC := Lib.hid hkc
      obtain ⟨S, hS⟩ : ∃ S, S = ovF cs i := ⟨_, rfl⟩
      have hbd := ovF_bd cs i
      rw [← hS] at hbd HM
      have HNX : Hid (∀ (W : World) (v' : Value) (S' : OvS), S' = ovStep c i S → OvM W (M + 1 + 1 + 1) w.heap.size (w.heap.size + 1) M (M + 1) (M + 1 + 1) tb bs ms mo cs (some ⟨g, o, none⟩) cap i S' v' → Below w.heap.size w W →
          ∃ (i : Nat) (v : Value), i ≤ tp ∧ OvM (W.setCell ⟨M + 1, 0, none⟩ (.int .i64 ((j1 : Nat) : Int))) (M + 1 + 1 + 1) w.heap.size (w.heap.size + 1) M (M + 1) (M + 1 + 1) tb bs ms mo cs (some ⟨g, o, none⟩) cap i (ovF cs i) v ∧ Below w.heap.size w (W.setCell ⟨M + 1, 0, none⟩ (.int .i64 ((j1 : Nat) : Int)))) := Lib.hid fun W v' S' hst hm hb => by
        refine ⟨i + 1, v', hlt, ?_, hb.setCell (p := ⟨M + 1, 0, none⟩) (by show w.heap.size ≤ M + 1; omega) _⟩
        have e : ovF cs (i + 1) = S' := by rw [hst, hS, hc]; rfl
        rw [e, hj1]
        exact hm.next (i + 1)
      have HIX : Hid (∀ (W : World), (∃ x : Int, Blk W (M + 1) 3 #[.int .i64 x]) → idxOf (W.setCell ⟨M + 1, 0, none⟩ (.int .i64 ((j1 : Nat) : Int))) (M + 1) = i + 1) := Lib.hid fun W hW => by
        obtain ⟨x, hW⟩ := hW
        have := Blk.set hW (j := 0) (by simp) (.int .i64 ((j1 : Nat) : Int))
        have := idxOf_eq (i := j1) this
        rw [this, hj1]
      have s1 : IntKind.i64.wrap ((i : Int) + 1) = (j1 : Int) := by rw [IntWalk.i64_in _ (by omega), hj1]; omega
      have HGD0 : Hid ((cs.map Int.ofNat).getD i 0 = (c : Int)) := Lib.hid (by rw [List.getD_eq_getElem?_getD, hx]; rfl)
      clear hcg hx hcN hat hg hic hkv hS hkc hc hj1
      go_wp2_with fail
      refine HCL.out.mono ?_
      rintro e w2 ⟨rfl, hb2⟩
      have HM2 := Lib.hid (HM.out.up hb2)
      have HB2 := Lib.hid (up2 HB.out hb2)
      have a0 : w2.cell? ⟨M + 1, 0, none⟩ = some (.int .i64 (i : Int)) := HM2.out.at_.cell (j := 0) rfl
      have fa := HM2.out.at_.fz 0
      have k0 := cell_up k0 hb2
      have l0 := cell_up l0 hb2
      clear hb2 HCL HM HB
      obtain ⟨op, un, inn, co, st, qu⟩ := S
      simp only [] at hbd
      obtain ⟨Av, cv, hv3, hcv1, hcv2, _⟩ := HM2.out.own.shape eltI
      rw [List.length_map] at hv3
      subst hv3
      obtain ⟨m, hm⟩ : ∃ m, m = op.length := ⟨_, rfl⟩
      rw [← hm] at HM2 hbd
      have HMM := Lib.hid hm
      have d200 : (200 < m) = False := by simp; omega
      have d201 : (200 < m + 1) = False := by simp; omega
      have d202 : (200 < m - 1) = False := by simp; omega
      have c0 := HM2.out.st.cell (j := 0) rfl
      have c1 := HM2.out.st.cell (j := 1) rfl
      have c2 : w2.cell? ⟨w.heap.size, 2, none⟩ = some (.int .i64 (inn : Int)) := HM2.out.st.cell (j := 2) rfl
      have c3 : w2.cell? ⟨w.heap.size, 3, none⟩ = some (.bool co) := HM2.out.st.cell (j := 3) rfl
      have c4 : w2.cell? ⟨w.heap.size, 4, none⟩ = some (.int .i64 (st : Int)) := HM2.out.st.cell (j := 4) rfl
      have c5 : w2.cell? ⟨w.heap.size, 5, none⟩ = some (.bool qu) := HM2.out.st.cell (j := 5) rfl
      have f2 := HM2.out.st.fz 2
      have f3 := HM2.out.st.fz 3
      have f4 := HM2.out.st.fz 4
      have f5 := HM2.out.st.fz 5
      clear hm hcv1 hcv2
      cases qu with
      | true =>
        have hst : ovStep c i ⟨op, un, inn, co, st, true⟩ = ⟨op, un, inn, co, st, false⟩ := by simp [ovStep, HKV.out]
        have HST := Lib.hid hst
        clear hst
        have m3 := HM2.out.turn (S' := ⟨op, un, inn, co, st, false⟩) (Only.setCell (S := fun j => j = w.heap.size ∨ M + 1 + 1 + 1 ≤ j) (p := ⟨w.heap.size, 5, none⟩) (Only.refl _ w2) (.inl rfl) (.bool false)) (HM2.out.st.set (j := 5) (by simp) (.bool false)) (HM2.out.own.kept (w' := _) (fun g hg => Below.heap_setCell _ ⟨w.heap.size, 5, none⟩ (.bool false) g (by have := HM2.out.own.base hg; show g ≠ w.heap.size; omega)))
        have b3 := (HB2.out.setCell (p := ⟨w.heap.size, 5, none⟩) (Nat.le_refl _) (.bool false))
        have HF := Lib.hid (And.intro m3 b3)
        clear m3 b3
        go_wp2_with fail
        go_roundw
        case rel => exact HNX.out _ _ _ HST.out.symm HF.out.1 HF.out.2
        case measure =>
          have hlt2 : tp - (i + 1) < tp - i := by omega
          rw [← HIX.out _ ⟨_, HF.out.1.at_⟩] at hlt2
          exact hlt2
      | false =>
        by_cases hinn : inn = 0
        · subst hinn
          cases co with
          | true =>
            by_cases h9 : kv = 9
            · subst h9
              have hst : ovStep c i ⟨op, un, 0, true, st, false⟩ = ⟨op, un, 0, false, 0, false⟩ := by simp [ovStep, HKV.out]
              have HST := Lib.hid hst
              clear hst
              have m3 := HM2.out.turn (S' := ⟨op, un, 0, false, 0, false⟩) (Only.setCell (S := fun j => j = w.heap.size ∨ M + 1 + 1 + 1 ≤ j) (p := ⟨w.heap.size, 4, none⟩) (Only.setCell (S := fun j => j = w.heap.size ∨ M + 1 + 1 + 1 ≤ j) (p := ⟨w.heap.size, 3, none⟩) (Only.refl _ w2) (.inl rfl) (.bool false)) (.inl rfl) (.int .i64 0)) ((HM2.out.st.set (j := 3) (by simp) (.bool false)).set (j := 4) (by simp) (.int .i64 0)) ((HM2.out.own.kept (w' := _) (fun g hg => Below.heap_setCell _ ⟨w.heap.size, 3, none⟩ (.bool false) g (by have := HM2.out.own.base hg; show g ≠ w.heap.size; omega))).kept (w' := _) (fun g hg => Below.heap_setCell _ ⟨w.heap.size, 4, none⟩ (.int .i64 0) g (by have := HM2.out.own.base hg; show g ≠ w.heap.size; omega)))
              have b3 := ((HB2.out.setCell (p := ⟨w.heap.size, 3, none⟩) (Nat.le_refl _) (.bool false)).setCell (p := ⟨w.heap.size, 4, none⟩) (Nat.le_refl _) (.int .i64 0))
              have HF := Lib.hid (And.intro m3 b3)
              clear m3 b3
              go_wp2_with fail
              go_roundw
              case rel => exact HNX.out _ _ _ HST.out.symm HF.out.1 HF.out.2
              case measure =>
                have hlt2 : tp - (i + 1) < tp - i := by omega
                rw [← HIX.out _ ⟨_, HF.out.1.at_⟩] at hlt2
                exact hlt2
            · have d9 : (kv == 9) = false := by simp; exact h9
              have hst : ovStep c i ⟨op, un, 0, true, st, false⟩ = ⟨op, un, 0, true, st, false⟩ := by simp [ovStep, HKV.out, h9]
              have HST := Lib.hid hst
              clear hst
              have m3 := HM2.out.turn (S' := ⟨op, un, 0, true, st, false⟩) (Only.refl _ w2) HM2.out.st HM2.out.own
              have b3 := HB2.out
              have HF := Lib.hid (And.intro m3 b3)
              clear m3 b3
              go_wp2_with fail
              go_roundw
              case rel => exact HNX.out _ _ _ HST.out.symm HF.out.1 HF.out.2
              case measure =>
                have hlt2 : tp - (i + 1) < tp - i := by omega
                rw [← HIX.out _ ⟨_, HF.out.1.at_⟩] at hlt2
                exact hlt2
          | false =>
            rcases HKC.out with rfl | rfl | rfl | rfl | rfl | rfl | rfl | rfl | rfl | rfl | rfl
            · have ar := HM2.out.arr.cell (j := 0) rfl
              have hst : ovStep c i ⟨op, un, 0, false, st, false⟩ = ⟨op, un, 0, false, st, false⟩ := by simp [ovStep, HKV.out]
              have HST := Lib.hid hst
              clear hst
              have nq := neqF
              go_wp2_with fail
              refine (ov1 w2).mono ?_
              rintro e w3 ⟨rfl, rfl⟩
              have HF := Lib.hid (And.intro HM2.out HB2.out)
              go_wp2_with fail
              go_roundw
              case rel => exact HNX.out _ _ _ HST.out.symm HF.out.1 HF.out.2
              case measure =>
                have hlt2 : tp - (i + 1) < tp - i := by omega
                rw [← HIX.out _ ⟨_, HF.out.1.at_⟩] at hlt2
                exact hlt2
            · have ar := HM2.out.arr.cell (j := 1) rfl
              have hst : ovStep c i ⟨op, un, 0, false, st, false⟩ = ⟨op, un, 0, false, st, false⟩ := by simp [ovStep, HKV.out]
              have HST := Lib.hid hst
              clear hst
              have m3 := HM2.out.turn (S' := ⟨op, un, 0, false, st, false⟩) (Only.refl _ w2) HM2.out.st HM2.out.own
              have b3 := HB2.out
              have HF := Lib.hid (And.intro m3 b3)
              clear m3 b3
              go_wp2_with fail
              go_roundw
              case rel => exact HNX.out _ _ _ HST.out.symm HF.out.1 HF.out.2
              case measure =>
                have hlt2 : tp - (i + 1) < tp - i := by omega
                rw [← HIX.out _ ⟨_, HF.out.1.at_⟩] at hlt2
                exact hlt2
            · have ar := HM2.out.arr.cell (j := 2) rfl
              have hst : ovStep c i ⟨op, un, 0, false, st, false⟩ = ⟨op, un, 0, false, st, false⟩ := by simp [ovStep, HKV.out]
              have HST := Lib.hid hst
              clear hst
              have m3 := HM2.out.turn (S' := ⟨op, un, 0, false, st, false⟩) (Only.refl _ w2) HM2.out.st HM2.out.own
              have b3 := HB2.out
              have HF := Lib.hid (And.intro m3 b3)
              clear m3 b3
              go_wp2_with fail
              go_roundw
              case rel => exact HNX.out _ _ _ HST.out.symm HF.out.1 HF.out.2
              case measure =>
                have hlt2 : tp - (i + 1) < tp - i := by omega
                rw [← HIX.out _ ⟨_, HF.out.1.at_⟩] at hlt2
                exact hlt2
            · have ar := HM2.out.arr.cell (j := 3) rfl
              have hst : ovStep c i ⟨op, un, 0, false, st, false⟩ = ⟨op, un, 0, false, st, false⟩ := by simp [ovStep, HKV.out]
              have HST := Lib.hid hst
              clear hst
              have m3 := HM2.out.turn (S' := ⟨op, un, 0, false, st, false⟩) (Only.refl _ w2) HM2.out.st HM2.out.own
              have b3 := HB2.out
              have HF := Lib.hid (And.intro m3 b3)
              clear m3 b3
              go_wp2_with fail
              go_roundw
              case rel => exact HNX.out _ _ _ HST.out.symm HF.out.1 HF.out.2
              case measure =>
                have hlt2 : tp - (i + 1) < tp - i := by omega
                rw [← HIX.out _ ⟨_, HF.out.1.at_⟩] at hlt2
                exact hlt2
            · have ar := HM2.out.arr.cell (j := 4) rfl
              have hst : ovStep c i ⟨op, un, 0, false, st, false⟩ = ⟨op ++ [i], un, 0, false, st, false⟩ := by simp [ovStep, HKV.out]
              have HST := Lib.hid hst
              clear hst
              have nq := neqF
              go_wp2_with fail
              clear c0 c1 c2 c3 c4 c5 f2 f3 f4 f5 a0 fa k0 l0 ar
              refine (ov5 (L := op.map Int.ofNat) HM2.out.st HM2.out.own HM2.out.hB (by omega) (by rw [List.length_map, ← HMM.out]; omega) i HM2.out.at_).mono ?_
              rintro e w3 ⟨rfl, ho3, v3, hown3, hst3⟩
              have m3 := HM2.out.turn (S' := ⟨op ++ [i], un, 0, false, st, false⟩) ho3 hst3 (by rw [List.map_append]; exact hown3)
              have b3 : Below w.heap.size w w3 := HB2.out.trans (ho3.below HB2.out.size (fun k hk => by omega))
              have a0 : w3.cell? ⟨M + 1, 0, none⟩ = some (.int .i64 (i : Int)) := m3.at_.cell (j := 0) rfl
              have fa := m3.at_.fz 0
              obtain ⟨A3, cp3, hv4, _, _, _⟩ := m3.own.shape eltI
              rw [List.length_map, List.length_append, List.length_singleton, ← HMM.out] at hv4
              subst hv4
              have c0 := m3.st.cell (j := 0) rfl
              have HF := Lib.hid (And.intro m3 b3)
              clear m3 b3
              go_wp2_with fail
              go_roundw
              case rel => exact HNX.out _ _ _ HST.out.symm HF.out.1 HF.out.2
              case measure =>
                have hlt2 : tp - (i + 1) < tp - i := by omega
                rw [← HIX.out _ ⟨_, HF.out.1.at_⟩] at hlt2
                exact hlt2
            · have HU : Hid ((if op.map Int.ofNat = [] then (un : Int) + 1 else (un : Int)) = ((if op = [] then un + 1 else un : Nat) : Int)) := Lib.hid (by by_cases h : op = [] <;> simp [h])
              have ar := HM2.out.arr.cell (j := 5) rfl
              have hst : ovStep c i ⟨op, un, 0, false, st, false⟩ = ⟨op.dropLast, if op = [] then un + 1 else un, 0, false, st, false⟩ := by simp [ovStep, HKV.out]
              have HST := Lib.hid hst
              clear hst
              have nq := neqF
              go_wp2_with fail
              clear c0 c1 c2 c3 c4 c5 f2 f3 f4 f5 a0 fa k0 l0 ar
              refine (ov6 (L := op.map Int.ofNat) HM2.out.st HM2.out.own (by omega) (by rw [List.length_map, ← HMM.out]; omega) (by show (0 : Int) ≤ (un : Int); omega) (by show (un : Int) ≤ 1000000; omega)).mono ?_
              rintro e w3 ⟨rfl, ho3, v3, hown3, hst3⟩
              have m3 := HM2.out.turn (S' := ⟨op.dropLast, if op = [] then un + 1 else un, 0, false, st, false⟩) (ho3.mono (T := fun j => j = w.heap.size ∨ M + 1 + 1 + 1 ≤ j) (fun j hj => .inl hj)) (HU.out ▸ hst3) (by rw [List.map_dropLast]; exact hown3)
              have b3 : Below w.heap.size w w3 := HB2.out.trans ((ho3.mono (T := fun j => j = w.heap.size ∨ M + 1 + 1 + 1 ≤ j) (fun j hj => .inl hj)).below HB2.out.size (fun k hk => by omega))
              have a0 : w3.cell? ⟨M + 1, 0, none⟩ = some (.int .i64 (i : Int)) := m3.at_.cell (j := 0) rfl
              have fa := m3.at_.fz 0
              obtain ⟨A3, cp3, hv4, _, _, _⟩ := m3.own.shape eltI
              rw [List.length_map, List.length_dropLast, ← HMM.out] at hv4
              subst hv4
              have c0 := m3.st.cell (j := 0) rfl
              have HF := Lib.hid (And.intro m3 b3)
              clear m3 b3
              go_wp2_with fail
              go_roundw
              case rel => exact HNX.out _ _ _ HST.out.symm HF.out.1 HF.out.2
              case measure =>
                have hlt2 : tp - (i + 1) < tp - i := by omega
                rw [← HIX.out _ ⟨_, HF.out.1.at_⟩] at hlt2
                exact hlt2
            · have HGD : Hid ((cs.map Int.ofNat).getD i 0 = (c : Int)) := Lib.hid HGD0.out
              have ar := HM2.out.arr.cell (j := 6) rfl
              have hst : ovStep c i ⟨op, un, 0, false, st, false⟩ = ⟨op, un, c, false, i, false⟩ := by simp [ovStep, HKV.out]
              have HST := Lib.hid hst
              clear hst
              have nq := neqF
              go_wp2_with fail
              clear c0 c1 c2 c3 c4 c5 f2 f3 f4 f5 a0 fa k0 l0 ar
              refine (ov3 HM2.out.st HM2.out.li HM2.out.rs i (by rw [List.length_map, ← HN.out]; omega) HM2.out.at_).mono ?_
              rintro e w3 ⟨rfl, ho3, hst3⟩
              have m3 := HM2.out.turn (S' := ⟨op, un, c, false, i, false⟩) (ho3.mono (T := fun j => j = w.heap.size ∨ M + 1 + 1 + 1 ≤ j) (fun j hj => .inl hj)) (HGD.out ▸ hst3) (HM2.out.own.kept (fun g hg => ho3.block g (HM2.out.own.lt hg) (by have := HM2.out.own.base hg; show ¬ (g = w.heap.size); omega)))
              have b3 : Below w.heap.size w w3 := HB2.out.trans ((ho3.mono (T := fun j => j = w.heap.size ∨ M + 1 + 1 + 1 ≤ j) (fun j hj => .inl hj)).below HB2.out.size (fun k hk => by omega))
              have a0 : w3.cell? ⟨M + 1, 0, none⟩ = some (.int .i64 (i : Int)) := m3.at_.cell (j := 0) rfl
              have fa := m3.at_.fz 0
              have c0 := m3.st.cell (j := 0) rfl
              have HF := Lib.hid (And.intro m3 b3)
              clear m3 b3
              go_wp2_with fail
              go_roundw
              case rel => exact HNX.out _ _ _ HST.out.symm HF.out.1 HF.out.2
              case measure =>
                have hlt2 : tp - (i + 1) < tp - i := by omega
                rw [← HIX.out _ ⟨_, HF.out.1.at_⟩] at hlt2
                exact hlt2
            · have ar := HM2.out.arr.cell (j := 7) rfl
              have hst : ovStep c i ⟨op, un, 0, false, st, false⟩ = ⟨op, un, 0, false, st, true⟩ := by simp [ovStep, HKV.out]
              have HST := Lib.hid hst
              clear hst
              have nq := neqF
              go_wp2_with fail
              clear c0 c1 c2 c3 c4 c5 f2 f3 f4 f5 a0 fa k0 l0 ar
              refine (ov2 HM2.out.st).mono ?_
              rintro e w3 ⟨rfl, ho3, hst3⟩
              have m3 := HM2.out.turn (S' := ⟨op, un, 0, false, st, true⟩) (ho3.mono (T := fun j => j = w.heap.size ∨ M + 1 + 1 + 1 ≤ j) (fun j hj => .inl hj)) hst3 (HM2.out.own.kept (fun g hg => ho3.block g (HM2.out.own.lt hg) (by have := HM2.out.own.base hg; show ¬ (g = w.heap.size); omega)))
              have b3 : Below w.heap.size w w3 := HB2.out.trans ((ho3.mono (T := fun j => j = w.heap.size ∨ M + 1 + 1 + 1 ≤ j) (fun j hj => .inl hj)).below HB2.out.size (fun k hk => by omega))
              have a0 : w3.cell? ⟨M + 1, 0, none⟩ = some (.int .i64 (i : Int)) := m3.at_.cell (j := 0) rfl
              have fa := m3.at_.fz 0
              have c0 := m3.st.cell (j := 0) rfl
              have HF := Lib.hid (And.intro m3 b3)
              clear m3 b3
              go_wp2_with fail
              go_roundw
              case rel => exact HNX.out _ _ _ HST.out.symm HF.out.1 HF.out.2
              case measure =>
                have hlt2 : tp - (i + 1) < tp - i := by omega
                rw [← HIX.out _ ⟨_, HF.out.1.at_⟩] at hlt2
                exact hlt2
            · have ar := HM2.out.arr.cell (j := 8) rfl
              have hst : ovStep c i ⟨op, un, 0, false, st, false⟩ = ⟨op, un, 0, true, i, false⟩ := by simp [ovStep, HKV.out]
              have HST := Lib.hid hst
              clear hst
              have nq := neqF
              go_wp2_with fail
              clear c0 c1 c2 c3 c4 c5 f2 f3 f4 f5 a0 fa k0 l0 ar
              refine (ov4 HM2.out.st i HM2.out.at_).mono ?_
              rintro e w3 ⟨rfl, ho3, hst3⟩
              have m3 := HM2.out.turn (S' := ⟨op, un, 0, true, i, false⟩) (ho3.mono (T := fun j => j = w.heap.size ∨ M + 1 + 1 + 1 ≤ j) (fun j hj => .inl hj)) hst3 (HM2.out.own.kept (fun g hg => ho3.block g (HM2.out.own.lt hg) (by have := HM2.out.own.base hg; show ¬ (g = w.heap.size); omega)))
              have b3 : Below w.heap.size w w3 := HB2.out.trans ((ho3.mono (T := fun j => j = w.heap.size ∨ M + 1 + 1 + 1 ≤ j) (fun j hj => .inl hj)).below HB2.out.size (fun k hk => by omega))
              have a0 : w3.cell? ⟨M + 1, 0, none⟩ = some (.int .i64 (i : Int)) := m3.at_.cell (j := 0) rfl
              have fa := m3.at_.fz 0
              have c0 := m3.st.cell (j := 0) rfl
              have HF := Lib.hid (And.intro m3 b3)
              clear m3 b3
              go_wp2_with fail
              go_roundw
              case rel => exact HNX.out _ _ _ HST.out.symm HF.out.1 HF.out.2
              case measure =>
                have hlt2 : tp - (i + 1) < tp - i := by omega
                rw [← HIX.out _ ⟨_, HF.out.1.at_⟩] at hlt2
                exact hlt2
            · have ar := HM2.out.arr.cell (j := 9) rfl
              have hst : ovStep c i ⟨op, un, 0, false, st, false⟩ = ⟨op, un, 0, false, st, false⟩ := by simp [ovStep, HKV.out]
              have HST := Lib.hid hst
              clear hst
              have m3 := HM2.out.turn (S' := ⟨op, un, 0, false, st, false⟩) (Only.refl _ w2) HM2.out.st HM2.out.own
              have b3 := HB2.out
              have HF := Lib.hid (And.intro m3 b3)
              clear m3 b3
              go_wp2_with fail
              go_roundw
              case rel => exact HNX.out _ _ _ HST.out.symm HF.out.1 HF.out.2
              case measure =>
                have hlt2 : tp - (i + 1) < tp - i := by omega
                rw [← HIX.out _ ⟨_, HF.out.1.at_⟩] at hlt2
                exact hlt2
            · have ar := HM2.out.arr.cell (j := 10) rfl
              have hst : ovStep c i ⟨op, un, 0, false, st, false⟩ = ⟨op, un, 0, false, st, false⟩ := by simp [ovStep, HKV.out]
              have HST := Lib.hid hst
              clear hst
              have nq := neqF
              go_wp2_with fail
              refine (ov7 w2).mono ?_
              rintro e w3 ⟨rfl, rfl⟩
              have HF := Lib.hid (And.intro HM2.out HB2.out)
              go_wp2_with fail
              go_roundw
              case rel => exact HNX.out _ _ _ HST.out.symm HF.out.1 HF.out.2
              case measure =>
                have hlt2 : tp - (i + 1) < tp - i := by omega
                rw [← HIX.out _ ⟨_, HF.out.1.at_⟩] at hlt2
                exact hlt2
        · have dn : ((inn : Int) != 0) = true := by simp; exact hinn
          by_cases h7 : kv = 7
          · subst h7
            have hst : ovStep c i ⟨op, un, inn, co, st, false⟩ = ⟨op, un, inn, co, st, true⟩ := by simp [ovStep, HKV.out, hinn]
            have HST := Lib.hid hst
            clear hst
            have m3 := HM2.out.turn (S' := ⟨op, un, inn, co, st, true⟩) (Only.setCell (S := fun j => j = w.heap.size ∨ M + 1 + 1 + 1 ≤ j) (p := ⟨w.heap.size, 5, none⟩) (Only.refl _ w2) (.inl rfl) (.bool true)) (HM2.out.st.set (j := 5) (by simp) (.bool true)) (HM2.out.own.kept (w' := _) (fun g hg => Below.heap_setCell _ ⟨w.heap.size, 5, none⟩ (.bool true) g (by have := HM2.out.own.base hg; show g ≠ w.heap.size; omega)))
            have b3 := (HB2.out.setCell (p := ⟨w.heap.size, 5, none⟩) (Nat.le_refl _) (.bool true))
            have HF := Lib.hid (And.intro m3 b3)
            clear m3 b3
            go_wp2_with fail
            go_roundw
            case rel => exact HNX.out _ _ _ HST.out.symm HF.out.1 HF.out.2
            case measure =>
              have hlt2 : tp - (i + 1) < tp - i := by omega
              rw [← HIX.out _ ⟨_, HF.out.1.at_⟩] at hlt2
              exact hlt2
          · have d7 : (kv == 7) = false := by simp; exact h7
            by_cases hci : c = inn
            · subst hci
              have de : ((c : Int) == (c : Int)) = true := by simp
              have hst : ovStep c i ⟨op, un, c, co, st, false⟩ = ⟨op, un, 0, co, 0, false⟩ := by simp [ovStep, HKV.out, hinn, h7]
              have HST := Lib.hid hst
              clear hst
              have m3 := HM2.out.turn (S' := ⟨op, un, 0, co, 0, false⟩) (Only.setCell (S := fun j => j = w.heap.size ∨ M + 1 + 1 + 1 ≤ j) (p := ⟨w.heap.size, 4, none⟩) (Only.setCell (S := fun j => j = w.heap.size ∨ M + 1 + 1 + 1 ≤ j) (p := ⟨w.heap.size, 2, none⟩) (Only.refl _ w2) (.inl rfl) (.int .i64 0)) (.inl rfl) (.int .i64 0)) ((HM2.out.st.set (j := 2) (by simp) (.int .i64 0)).set (j := 4) (by simp) (.int .i64 0)) ((HM2.out.own.kept (w' := _) (fun g hg => Below.heap_setCell _ ⟨w.heap.size, 2, none⟩ (.int .i64 0) g (by have := HM2.out.own.base hg; show g ≠ w.heap.size; omega))).kept (w' := _) (fun g hg => Below.heap_setCell _ ⟨w.heap.size, 4, none⟩ (.int .i64 0) g (by have := HM2.out.own.base hg; show g ≠ w.heap.size; omega)))
              have b3 := ((HB2.out.setCell (p := ⟨w.heap.size, 2, none⟩) (Nat.le_refl _) (.int .i64 0)).setCell (p := ⟨w.heap.size, 4, none⟩) (Nat.le_refl _) (.int .i64 0))
              have HF := Lib.hid (And.intro (m3.up (Below.refl _ _).drew) b3.drew)
              clear m3 b3
              go_wp2_with fail
              go_region
              go_wp2_with fail
              go_roundw
              case rel => exact HNX.out _ _ _ HST.out.symm HF.out.1 HF.out.2
              case measure =>
                have hlt2 : tp - (i + 1) < tp - i := by omega
                rw [← HIX.out _ ⟨_, HF.out.1.at_⟩] at hlt2
                exact hlt2
            · have de : ((c : Int) == (inn : Int)) = false := by simp; omega
              have hst : ovStep c i ⟨op, un, inn, co, st, false⟩ = ⟨op, un, inn, co, st, false⟩ := by simp [ovStep, HKV.out, hinn, h7, hci]
              have HST := Lib.hid hst
              clear hst
              have m3 := HM2.out.turn (S' := ⟨op, un, inn, co, st, false⟩) (Only.refl _ w2) HM2.out.st HM2.out.own
              have b3 := HB2.out
              have HF := Lib.hid (And.intro (m3.up (Below.refl _ _).drew) b3.drew)
              clear m3 b3
              go_wp2_with fail
              go_region
              go_wp2_with fail
              go_roundw
              case rel => exact HNX.out _ _ _ HST.out.symm HF.out.1 HF.out.2
              case measure =>
                have hlt2 : tp - (i + 1) < tp - i := by omega
                rw [← HIX.out _ ⟨_, HF.out.1.at_⟩] at hlt2
                exact hlt2
    · have dlt : (i < tp) = False := eq_false hlt
      have hit : i = tp := by omega
      subst hit
      obtain ⟨Av, cv, hv3, _, _, _⟩ := HM.out.own.shape eltI
      rw [List.length_map] at hv3
      subst hv3
      have c0 := HM.out.st.cell (j := 0) rfl
      have c1 := HM.out.st.cell (j := 1) rfl
      have c2 := HM.out.st.cell (j := 2) rfl
      have c3 := HM.out.st.cell (j := 3) rfl
      have c4 := HM.out.st.cell (j := 4) rfl
      have c5 := HM.out.st.cell (j := 5) rfl
      have r0 := HM.out.res.cell (j := 0) rfl
      have r1 := HM.out.res.cell (j := 1) rfl
      have r2 := HM.out.res.cell (j := 2) rfl
      have r3 := HM.out.res.cell (j := 3) rfl
      have r4 := HM.out.res.cell (j := 4) rfl
      have r5 := HM.out.res.cell (j := 5) rfl
      have q0 := HM.out.res.fz 0
      have q1 := HM.out.res.fz 1
      have q2 := HM.out.res.fz 2
      have q3 := HM.out.res.fz 3
      have q4 := HM.out.res.fz 4
      have q5 := HM.out.res.fz 5
      go_wp2_with fail
      have hk10 := (((((HM.out.res.set (j := 0) (by simp) (.slice Av (ovF cs i).op.length cv)).set (j := 1) (by simp) (.int .i64 ((ovF cs i).un : Int))).set (j := 2) (by simp) (.int .i64 ((ovF cs i).inn : Int))).set (j := 3) (by simp) (.bool (ovF cs i).co)).set (j := 4) (by simp) (.int .i64 ((ovF cs i).st : Int))).set (j := 5) (by simp) (.bool (ovF cs i).qu)
      have r0 := hk10.cell (j := 0) rfl
      have r1 := hk10.cell (j := 1) rfl
      have r2 := hk10.cell (j := 2) rfl
      have r3 := hk10.cell (j := 3) rfl
      have r4 := hk10.cell (j := 4) rfl
      have r5 := hk10.cell (j := 5) rfl
      refine bodyPost_ret (v := .tuple #[.agg (stC (.slice Av (ovF cs i).op.length cv) (ovF cs i).un (ovF cs i).inn (ovF cs i).st (ovF cs i).co (ovF cs i).qu), .int .i64 0]) (by simp [results, Tryz.f60, go_sem, r0, r1, r2, r3, r4, r5]) rfl ?_
      have ho := HM.out.own
      refine ⟨_, rfl, ?_, ?_⟩
      · exact ((((((ho.kept (fun g hg => Below.heap_setCell _ ⟨w.heap.size + 1, 0, none⟩ _ g (by have := ho.base hg; show g ≠ w.heap.size + 1; omega))).kept (fun g hg => Below.heap_setCell _ ⟨w.heap.size + 1, 1, none⟩ _ g (by have := ho.base hg; show g ≠ w.heap.size + 1; omega))).kept (fun g hg => Below.heap_setCell _ ⟨w.heap.size + 1, 2, none⟩ _ g (by have := ho.base hg; show g ≠ w.heap.size + 1; omega))).kept (fun g hg => Below.heap_setCell _ ⟨w.heap.size + 1, 3, none⟩ _ g (by have := ho.base hg; show g ≠ w.heap.size + 1; omega))).kept (fun g hg => Below.heap_setCell _ ⟨w.heap.size + 1, 4, none⟩ _ g (by have := ho.base hg; show g ≠ w.heap.size + 1; omega))).kept (fun g hg => Below.heap_setCell _ ⟨w.heap.size + 1, 5, none⟩ _ g (by have := ho.base hg; show g ≠ w.heap.size + 1; omega))).low (by omega)
      · exact (((((HB.out.setCell (p := ⟨w.heap.size + 1, 0, none⟩) (Nat.le_succ _) _).setCell (p := ⟨w.heap.size + 1, 1, none⟩) (Nat.le_succ _) _).setCell (p := ⟨w.heap.size + 1, 2, none⟩) (Nat.le_succ _) _).setCell (p := ⟨w.heap.size + 1, 3, none⟩) (Nat.le_succ _) _).setCell (p := ⟨w.heap.size + 1, 4, none⟩) (Nat.le_succ _) _).setCell (p := ⟨w.heap.size + 1, 5, none⟩) (Nat.le_succ _) _
end
end Go.Proofs.YtcfdalmllegefaaGreatDoor
/- copyistlaw24: of. -/
namespace Go.Proofs.YtcfdalmllegefaaGreatDoor
open Go.RowKit
set_option linter.unusedVariables false
set_option linter.unusedSimpArgs false
section
variable {w w' : World}
theorem Tabs.low {N M : Nat} (h : Tabs N w) (hM : N ≤ M) : Tabs M w := ⟨h.1, Nat.lt_of_lt_of_le h.2.1 hM, Nat.lt_of_lt_of_le h.2.2 hM⟩
theorem Rules.low {N M : Nat} (h : Rules N w) (hM : N ≤ M) : Rules M w := ⟨Nat.lt_of_lt_of_le h.1 hM, h.2⟩
theorem aft_eq {t m p o l : Nat} {lock : Int} {n : Nat} {em : Bool} : (aftS t m p o l lock n em).t = t ∧ (aftS t m p o l lock n em).l = l ∧ (aftS t m p o l lock n em).logs = true ∧ (aftS t m p o l lock n em).lo = 1 ∧ (aftS t m p o l lock n em).hi = 1 + n ∧ (aftS t m p o l lock n em).pt = 1 + n ∧ (aftS t m p o l lock n em).saved = .slice none 0 0 := by
  unfold aftS
  split
  · rename_i h; subst h; exact ⟨rfl, rfl, rfl, rfl, rfl, rfl, rfl⟩
  · exact ⟨rfl, rfl, rfl, rfl, rfl, rfl, rfl⟩
theorem BufT.only {b g : Nat} {S : BS} {cs : List Nat} {P : Nat → Prop} (h : BufT w b g S cs) (ho : Only P w w') (n1 : ¬ P b) (n2 : ¬ P S.t) (n3 : ¬ P g) : BufT w' b g S cs :=
  ⟨h.blk.only ho n1, h.gap.kept (ho.block _ (by obtain ⟨_, _, _, _, q⟩ := h.gap; exact q.lt) n2) (ho.block _ (by obtain ⟨_, _, _, _, q⟩ := h.gap; exact q.hg) n3) ho.size, h.hbt, h.hbg, h.h1, h.h2, h.h3, h.h4⟩
theorem below_of {N : Nat} {S : Nat → Prop} {w0 w w' : World} (hb : Below w0.heap.size w0 w) (ho : Only S w w') (hs : ∀ k, S k → w0.heap.size ≤ k) : Below w0.heap.size w0 w' := hb.trans (ho.below hb.size hs)
set_option maxRecDepth 100000 in
set_option maxHeartbeats 2000000 in
theorem of_ok {N : Nat} (hT : Tabs N w) (hR : Rules N w) (hN : N ≤ w.heap.size) (s : ByteArray) (hs : s.size ≤ 10000) (hv : (charsD s.data.toList).isSome = true) :
    Calls Tryz.prog 5 #[.string s] w fun r w' => ∃ b g S, r = .returned (.tuple #[pAt b, .bool true]) ∧ Below w.heap.size w w' ∧ BufT w' b g S (chrs s) ∧ S.lo = 1 ∧ S.hi = 1 + (chrs s).length ∧ S.pt = 1 + (chrs s).length ∧ w.heap.size ≤ b ∧ w.heap.size ≤ g ∧ w.heap.size ≤ S.t := by
  have HT := Lib.hid hT
  have HR := Lib.hid hR
  have HV := Lib.hid hv
  clear hT hR hv
  go_enter Tryz.func5, Tryz.ntmps5
  go_wp2_with fail
  refine (bufNew HT.out hN 1 2 3).mono ?_
  rintro e w1 ⟨b, t, g, l, mm, m, p, o, rfl, hb1, hf⟩
  have hord := hf.ord
  have F1 := Lib.hid hf
  have B1 := Lib.hid hb1
  clear hf hb1
  go_wp2_with fail
  refine (Insert_ok ((HT.out.up B1.out).low hN) ((HR.out.up B1.out).low hN) F1.out s hs HV.out).mono ?_
  rintro e w2 ⟨rfl, ho2, hk2, hg2, hl2⟩
  have B2 := Lib.hid (below_of (N := 0) B1.out ho2 (fun k hk => by omega))
  have K2 := Lib.hid hk2
  have G2 := Lib.hid hg2
  have L2 := Lib.hid hl2
  obtain ⟨a1, a2, a3, a4, a5, a6, a7⟩ := @aft_eq t m p o l 3 (chrs s).length (decide ((chrs s).length = 0))
  have HB := Lib.hid (bBoundary_ok hk2 a3 (a2.symm ▸ hl2) (by rw [a2]; omega))
  have HA := Lib.hid (⟨a1, a2, a4, a5, a6⟩ : _ ∧ _ ∧ _ ∧ _ ∧ _)
  clear ho2 hk2 hg2 hl2 F1 B1 a1 a2 a3 a4 a5 a6 a7
  go_wp2_with fail
  refine HB.out.mono ?_
  rintro e w3 ⟨rfl, ho3, hk3⟩
  obtain ⟨a1, a2, a4, a5, a6⟩ := HA.out
  rw [a2] at ho3
  have B3 := Lib.hid (below_of (N := 0) B2.out ho3 (fun k hk => by omega))
  obtain ⟨g', hg1, hg2, hg3, hgap⟩ := G2.out
  obtain ⟨Bq, capq, stq, enq, hq⟩ := id hgap
  have G3 := Lib.hid (hgap.kept (ho3.block t hq.lt (by show ¬ (t = b ∨ t = l); omega)) (ho3.block g' hq.hg (by show ¬ (g' = b ∨ g' = l); omega)) ho3.size)
  have K3 := Lib.hid hk3
  clear hk3 ho3 hgap hq HB
  go_wp2_with fail
  go_ret2
  refine ⟨b, g', _, rfl, B3.out, ⟨K3.out, ?_, ?_, hg2.symm, ?_, ?_, ?_, ?_⟩, a4, a5, a6, by omega, by omega, ?_⟩
  · show GapR w3 (aftS t m p o l 3 (chrs s).length (decide ((chrs s).length = 0))).t g' (chrs s)
    rw [a1]; exact G3.out
  · show b ≠ (aftS t m p o l 3 (chrs s).length (decide ((chrs s).length = 0))).t
    rw [a1]; omega
  · show 1 ≤ (aftS t m p o l 3 (chrs s).length (decide ((chrs s).length = 0))).lo
    rw [a4]; omega
  · show (aftS t m p o l 3 (chrs s).length (decide ((chrs s).length = 0))).lo ≤ (aftS t m p o l 3 (chrs s).length (decide ((chrs s).length = 0))).pt
    rw [a4, a6]; omega
  · show (aftS t m p o l 3 (chrs s).length (decide ((chrs s).length = 0))).pt ≤ (aftS t m p o l 3 (chrs s).length (decide ((chrs s).length = 0))).hi
    rw [a5, a6]; omega
  · show (aftS t m p o l 3 (chrs s).length (decide ((chrs s).length = 0))).hi ≤ (chrs s).length + 1
    rw [a5]; omega
  · show w.heap.size ≤ (aftS t m p o l 3 (chrs s).length (decide ((chrs s).length = 0))).t
    rw [a1]; omega
end
end Go.Proofs.YtcfdalmllegefaaGreatDoor
