/- Overlays: acts; an argument that is a slice of acts, opened. -/
import Derived.Test.YthjkdeocdhdkaaaGreatOvZb
import Derived.Test.YthjkdeocdhdkaaaGreatOpen
import Derived.OpenShut
namespace Go.Proofs.YthjkdeocdhdkaaaGreat
open Go.ChangeShapes Go.WideShapes Go.Deep Go.RowKit
set_option linter.unusedVariables false
set_option linter.unusedSimpArgs false
/-- An act. -/
structure Act18 where
  kind : Int
  id : Int
  f : Int
  t : Int
  nm : Int
  n : Int
  fr : Bool
  re : Bool
  vk : Int
  vn : Int
abbrev encA (a : Act18) : List Value := [.int .i64 a.kind, .int .i64 a.id, .int .i64 a.f, .int .i64 a.t, .int .i64 a.nm, .int .i64 a.n, .bool a.fr, .bool a.re, .int .i64 a.vk, .int .i64 a.vn]
theorem eltA : Elt encA 22 31 10 72 (.agg #[.int .i64 0, .int .i64 0, .int .i64 0, .int .i64 0, .int .i64 0, .int .i64 0, .bool false, .bool false, .int .i64 0, .int .i64 0]) :=
  ⟨Tryz.underlying22, by kernel_rfl, rfl, by omega, fun _ => rfl, fun x u hu => by simp at hu; rcases hu with rfl | rfl | rfl | rfl | rfl | rfl | rfl | rfl | rfl | rfl <;> rfl⟩
section
variable {H : Type} {enc : TypeId × Value → H} {W : World}
set_option maxRecDepth 100000 in
theorem word_open {n : Nat} {cs : List Value} {x : DataW H × List MemPlace} (h : DataW.trod enc Tryz.prog W 0 (fun _ => true) true n 29 cs = some x) : ∃ k m : Int, cs = [.int .i64 k, .int .i64 m] := by
  obtain ⟨ys, n', hn', hy, hlen, hyl, hf⟩ := DataW.trod_struct Tryz.underlying29 h
  have h2 : cs.length = 2 := hlen.trans (by kernel_rfl)
  match cs, h2 with
  | [v0, v1], _ =>
    have t0 := hf 0 _ rfl
    have t1 := hf 1 _ rfl
    have ki : Tryz.prog.cellsOf 3 = 1 := by kernel_rfl
    simp only [List.getElem_toArray, List.getElem_cons_zero, List.getElem_cons_succ, ki, List.drop_succ_cons, List.drop_zero, List.take_succ_cons, List.take_zero] at t0 t1
    have l2 : ys.length = 2 := hyl
    obtain ⟨x0, e0, _, _⟩ := DataW.trod_int Tryz.underlying3 (t0.trans (List.getElem?_eq_getElem (by omega)))
    obtain ⟨x1, e1, _, _⟩ := DataW.trod_int Tryz.underlying3 (t1.trans (List.getElem?_eq_getElem (by omega)))
    simp at e0 e1
    subst e0 e1
    exact ⟨x0, x1, rfl⟩
set_option maxRecDepth 100000 in
theorem act_open {n : Nat} {cs : List Value} {x : DataW H × List MemPlace} (h : DataW.trod enc Tryz.prog W 0 (fun _ => true) true n 31 cs = some x) : ∃ a : Act18, cs = encA a := by
  obtain ⟨ys, n', hn', hy, hlen, hyl, hf⟩ := DataW.trod_struct Tryz.underlying31 h
  have h10 : cs.length = 10 := hlen.trans (by kernel_rfl)
  match cs, h10 with
  | [v0, v1, v2, v3, v4, v5, v6, v7, v8, v9], _ =>
    have t0 := hf 0 _ rfl
    have t1 := hf 1 _ rfl
    have t2 := hf 2 _ rfl
    have t3 := hf 3 _ rfl
    have t4 := hf 4 _ rfl
    have t5 := hf 5 _ rfl
    have t6 := hf 6 _ rfl
    have t7 := hf 7 _ rfl
    have t8 := hf 8 _ rfl
    have ki : Tryz.prog.cellsOf 3 = 1 := by kernel_rfl
    have kb : Tryz.prog.cellsOf 4 = 1 := by kernel_rfl
    have kw : Tryz.prog.cellsOf 29 = 2 := by kernel_rfl
    simp only [List.getElem_toArray, List.getElem_cons_zero, List.getElem_cons_succ, ki, kb, kw, List.drop_succ_cons, List.drop_zero, List.take_succ_cons, List.take_zero, List.take_nil] at t0 t1 t2 t3 t4 t5 t6 t7 t8
    have l9 : ys.length = 9 := hyl
    obtain ⟨x0, e0, _, _⟩ := DataW.trod_int Tryz.underlying3 (t0.trans (List.getElem?_eq_getElem (by omega)))
    obtain ⟨x1, e1, _, _⟩ := DataW.trod_int Tryz.underlying3 (t1.trans (List.getElem?_eq_getElem (by omega)))
    obtain ⟨x2, e2, _, _⟩ := DataW.trod_int Tryz.underlying3 (t2.trans (List.getElem?_eq_getElem (by omega)))
    obtain ⟨x3, e3, _, _⟩ := DataW.trod_int Tryz.underlying3 (t3.trans (List.getElem?_eq_getElem (by omega)))
    obtain ⟨x4, e4, _, _⟩ := DataW.trod_int Tryz.underlying3 (t4.trans (List.getElem?_eq_getElem (by omega)))
    obtain ⟨x5, e5, _, _⟩ := DataW.trod_int Tryz.underlying3 (t5.trans (List.getElem?_eq_getElem (by omega)))
    obtain ⟨x6, e6, _⟩ := DataW.trod_bool Tryz.underlying4 (t6.trans (List.getElem?_eq_getElem (by omega)))
    obtain ⟨x7, e7, _⟩ := DataW.trod_bool Tryz.underlying4 (t7.trans (List.getElem?_eq_getElem (by omega)))
    obtain ⟨x8, x9, e8⟩ := word_open (t8.trans (List.getElem?_eq_getElem (by omega)))
    simp at e0 e1 e2 e3 e4 e5 e6 e7 e8
    obtain ⟨e8, e9⟩ := e8
    subst e0 e1 e2 e3 e4 e5 e6 e7 e8 e9
    exact ⟨⟨x0, x1, x2, x3, x4, x5, x6, x7, x8, x9⟩, rfl⟩
theorem acts_open {a : Option Addr} {len cap : Nat} {d : DataW H} {p : List MemPlace} (h : DataW.Trod enc Tryz.prog W 0 (fun _ => true) true 22 (.slice a len cap) d p) :
    ∃ l : List Act18, l.length = len ∧ len ≤ maxLen ∧ RSl encA W a l := by
  obtain ⟨fuel, hf⟩ := h
  obtain ⟨A, xs, c, hv, h1, h2, h3⟩ := slice_open eltA (by kernel_rfl) (v := .slice a len cap) hf (fun _ _ _ h => act_open h)
  cases hv
  exact ⟨xs, rfl, by omega, h3⟩
end
end Go.Proofs.YthjkdeocdhdkaaaGreat
