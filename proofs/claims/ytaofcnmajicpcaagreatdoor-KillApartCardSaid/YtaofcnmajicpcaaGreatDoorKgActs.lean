/- An argument that is a slice of calls of registers, opened; copyistlaw25.KillRegisters at every argument. -/
import Derived.Test.YtaofcnmajicpcaaGreatDoorKgT
import Derived.Test.YtaofcnmajicpcaaGreatDoorOpen
import Derived.Test.YtaofcnmajicpcaaGreatDoorKrActs
import Derived.OpenShut
namespace Go.Proofs.YtaofcnmajicpcaaGreatDoor
open Go.ChangeShapes Go.WideShapes Go.Deep Go.RowKit
set_option linter.unusedVariables false
set_option linter.unusedSimpArgs false
section
variable {H : Type} {enc : TypeId × Value → H} {W : World}
/-- What is known of a call that came in. -/
structure CallIn (w : World) (a : CallE) : Prop where
  rs : RSl encS w a.x.A a.x.rows
  lc : a.x.rows.length ≤ a.x.c
  mc : a.x.c ≤ maxLen
  s : ∀ s ∈ a.x.rows, s.size ≤ maxLen
  t : a.x.text.size ≤ maxLen
  n0 : -9223372036854775808 ≤ a.n
  n1 : a.n ≤ 9223372036854775807
set_option maxRecDepth 100000 in
theorem reg_open {n : Nat} {cs : List Value} {x : DataW H × List MemPlace} (h : DataW.trod enc Tryz.prog W 0 (fun _ => true) true n 28 cs = some x) :
    ∃ r : Reg, cs = encG r ∧ RSl encS W r.A r.rows ∧ r.rows.length ≤ r.c ∧ r.c ≤ maxLen ∧ (∀ s ∈ r.rows, s.size ≤ maxLen) ∧ r.text.size ≤ maxLen := by
  obtain ⟨ys, n', hn', hy, hlen, hyl, hf⟩ := DataW.trod_struct Tryz.underlying28 h
  have h5 : cs.length = 5 := hlen.trans (by kernel_rfl)
  match cs, h5 with
  | [v0, v1, v2, v3, v4], _ =>
    have t0 := hf 0 _ rfl
    have t1 := hf 1 _ rfl
    have t2 := hf 2 _ rfl
    have t3 := hf 3 _ rfl
    have t4 := hf 4 _ rfl
    have ki : Tryz.prog.cellsOf 3 = 1 := by kernel_rfl
    have ks : Tryz.prog.cellsOf 9 = 1 := by kernel_rfl
    have kl : Tryz.prog.cellsOf 26 = 1 := by kernel_rfl
    simp only [List.getElem_toArray, List.getElem_cons_zero, List.getElem_cons_succ, ki, ks, kl, List.drop_succ_cons, List.drop_zero, List.take_succ_cons, List.take_zero] at t0 t1 t2 t3 t4
    have l5 : ys.length = 5 := hyl
    obtain ⟨x0, e0, _, _⟩ := DataW.trod_int Tryz.underlying3 (t0.trans (List.getElem?_eq_getElem (by omega)))
    obtain ⟨x1, e1, _, _⟩ := DataW.trod_int Tryz.underlying3 (t1.trans (List.getElem?_eq_getElem (by omega)))
    obtain ⟨x2, e2, _, _⟩ := DataW.trod_int Tryz.underlying3 (t2.trans (List.getElem?_eq_getElem (by omega)))
    obtain ⟨x3, e3, _, hs3⟩ := DataW.trod_string Tryz.underlying9 (t3.trans (List.getElem?_eq_getElem (by omega)))
    obtain ⟨A, xs, c, rfl, p1, q1, r1, u1⟩ := slice_open_sub (fun s : ByteArray => s.size ≤ maxLen) eltS (by kernel_rfl) (t4.trans (List.getElem?_eq_getElem (by omega))) (fun _ _ _ h => by
      obtain ⟨s, e, _, hs⟩ := DataW.trod_string Tryz.underlying9 h
      exact ⟨s, e, hs⟩)
    simp at e0 e1 e2 e3
    subst e0 e1 e2 e3
    exact ⟨⟨x0, x1, x2, x3, A, c, xs⟩, rfl, r1, p1, q1, u1, hs3⟩
set_option maxRecDepth 100000 in
theorem call_open {n : Nat} {cs : List Value} {x : DataW H × List MemPlace} (h : DataW.trod enc Tryz.prog W 0 (fun _ => true) true n 30 cs = some x) : ∃ a : CallE, cs = encC a ∧ CallIn W a := by
  obtain ⟨ys, n', hn', hy, hlen, hyl, hf⟩ := DataW.trod_struct Tryz.underlying30 h
  have h8 : cs.length = 8 := hlen.trans (by kernel_rfl)
  match cs, h8 with
  | [v0, v1, v2, v3, v4, v5, v6, v7], _ =>
    have t0 := hf 0 _ rfl
    have t1 := hf 1 _ rfl
    have t2 := hf 2 _ rfl
    have t3 := hf 3 _ rfl
    have ki : Tryz.prog.cellsOf 3 = 1 := by kernel_rfl
    have kr : Tryz.prog.cellsOf 28 = 5 := by kernel_rfl
    simp only [List.getElem_toArray, List.getElem_cons_zero, List.getElem_cons_succ, ki, kr, List.drop_succ_cons, List.drop_zero, List.take_succ_cons, List.take_zero, List.take_nil] at t0 t1 t2 t3
    have l4 : ys.length = 4 := hyl
    obtain ⟨x0, e0, _, _⟩ := DataW.trod_int Tryz.underlying3 (t0.trans (List.getElem?_eq_getElem (by omega)))
    obtain ⟨x1, e1, _, _⟩ := DataW.trod_int Tryz.underlying3 (t1.trans (List.getElem?_eq_getElem (by omega)))
    obtain ⟨x2, e2, _, w2⟩ := DataW.trod_int Tryz.underlying3 (t2.trans (List.getElem?_eq_getElem (by omega)))
    obtain ⟨r, e3, r1, r2, r3, r4, r5⟩ := reg_open (t3.trans (List.getElem?_eq_getElem (by omega)))
    have hb := bounds_i64 w2
    simp at e0 e1 e2 e3
    obtain ⟨rfl, rfl, rfl, rfl, rfl⟩ := e3
    subst e0 e1 e2
    exact ⟨⟨x0, x1, x2, r⟩, rfl, ⟨r1, r2, r3, r4, r5, hb.1, hb.2⟩⟩
theorem calls_open {a : Option Addr} {len cap : Nat} {d : DataW H} {p : List MemPlace} (h : DataW.Trod enc Tryz.prog W 0 (fun _ => true) true 23 (.slice a len cap) d p) :
    ∃ l : List CallE, l.length = len ∧ len ≤ maxLen ∧ RSl encC W a l ∧ ∀ x ∈ l, CallIn W x := by
  obtain ⟨fuel, hf⟩ := h
  obtain ⟨A, xs, c, hv, h1, h2, h3, h4⟩ := slice_open_sub (CallIn W) eltC (by kernel_rfl) (v := .slice a len cap) hf (fun _ _ _ h => call_open h)
  cases hv
  exact ⟨xs, rfl, by omega, h3, h4⟩
end
theorem few_facts {l : List CallE} (h : fewB l = true) : l.length ≤ 40 ∧ ∀ a ∈ l, a.x.text.size ≤ 40 ∧ a.x.rows.length ≤ 6 ∧ ∀ s ∈ a.x.rows, s.size ≤ 40 := by
  unfold fewB at h
  rw [Bool.and_eq_true, List.all_eq_true] at h
  refine ⟨by simpa using h.2, fun a ha => ?_⟩
  have h1 := h.1 a ha
  unfold ltB at h1
  rw [Bool.and_eq_true, Bool.and_eq_true, List.all_eq_true] at h1
  exact ⟨by simpa using h1.1, by simpa using h1.2.2, fun s hs => by simpa using h1.2.1 s hs⟩
end Go.Proofs.YtaofcnmajicpcaaGreatDoor
