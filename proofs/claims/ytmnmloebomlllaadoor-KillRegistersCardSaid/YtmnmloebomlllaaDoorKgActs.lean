/- An argument that is a slice of calls of registers, opened; copyistlaw25.KillRegisters at every argument. -/
import Derived.Test.YtmnmloebomlllaaDoorKgU
import Derived.Test.YtmnmloebomlllaaDoorOpen
import Derived.Test.YtmnmloebomlllaaDoorKrActs
import Derived.OpenShut
namespace Go.Proofs.YtmnmloebomlllaaDoor
open Go.ChangeShapes Go.WideShapes Go.Deep Go.RowKit
set_option linter.unusedVariables false
set_option linter.unusedSimpArgs false
section
variable {H : Type} {enc : TypeId × Value → H} {W : World}
/-- What is known of a call that came in. -/
structure CallIn (w : World) (a : CallE) : Prop where
  rs : RSl encS w a.x.A a.x.rows
  lc : a.x.rows.length ≤ a.x.c
  mc : a.x.c ≤ maxLen
  s : ∀ s ∈ a.x.rows, s.size ≤ maxLen
  t : a.x.text.size ≤ maxLen
  n0 : -9223372036854775808 ≤ a.n
  n1 : a.n ≤ 9223372036854775807
set_option maxRecDepth 100000 in
theorem reg_open {n : Nat} {cs : List Value} {x : DataW H × List MemPlace} (h : DataW.trod enc Tryd.prog W 0 (fun _ => true) true n 56 cs = some x) :
    ∃ r : Reg, cs = encG r ∧ RSl encS W r.A r.rows ∧ r.rows.length ≤ r.c ∧ r.c ≤ maxLen ∧ (∀ s ∈ r.rows, s.size ≤ maxLen) ∧ r.text.size ≤ maxLen := by
  obtain ⟨ys, n', hn', hy, hlen, hyl, hf⟩ := DataW.trod_struct Tryd.underlying56 h
  have h5 : cs.length = 5 := hlen.trans (by kernel_rfl)
  match cs, h5 with
  | [v0, v1, v2, v3, v4], _ =>
    have t0 := hf 0 _ rfl
    have t1 := hf 1 _ rfl
    have t2 := hf 2 _ rfl
    have t3 := hf 3 _ rfl
    have t4 := hf 4 _ rfl
    have ki : Tryd.prog.cellsOf 3 = 1 := by kernel_rfl
    have ks : Tryd.prog.cellsOf 9 = 1 := by kernel_rfl
    have kl : Tryd.prog.cellsOf 34 = 1 := by kernel_rfl
    simp only [List.getElem_toArray, List.getElem_cons_zero, List.getElem_cons_succ, ki, ks, kl, List.drop_succ_cons, List.drop_zero, List.take_succ_cons, List.take_zero] at t0 t1 t2 t3 t4
    have l5 : ys.length = 5 := hyl
    obtain ⟨x0, e0, _, _⟩ := DataW.trod_int Tryd.underlying3 (t0.trans (List.getElem?_eq_getElem (by omega)))
    obtain ⟨x1, e1, _, _⟩ := DataW.trod_int Tryd.underlying3 (t1.trans (List.getElem?_eq_getElem (by omega)))
    obtain ⟨x2, e2, _, _⟩ := DataW.trod_int Tryd.underlying3 (t2.trans (List.getElem?_eq_getElem (by omega)))
    obtain ⟨x3, e3, _, hs3⟩ := DataW.trod_string Tryd.underlying9 (t3.trans (List.getElem?_eq_getElem (by omega)))
    obtain ⟨A, xs, c, rfl, p1, q1, r1, u1⟩ := slice_open_sub (fun s : ByteArray => s.size ≤ maxLen) eltS (by kernel_rfl) (t4.trans (List.getElem?_eq_getElem (by omega))) (fun _ _ _ h => by
      obtain ⟨s, e, _, hs⟩ := DataW.trod_string Tryd.underlying9 h
      exact ⟨s, e, hs⟩)
    simp at e0 e1 e2 e3
    subst e0 e1 e2 e3
    exact ⟨⟨x0, x1, x2, x3, A, c, xs⟩, rfl, r1, p1, q1, u1, hs3⟩
set_option maxRecDepth 100000 in
theorem call_open {n : Nat} {cs : List Value} {x : DataW H × List MemPlace} (h : DataW.trod enc Tryd.prog W 0 (fun _ => true) true n 61 cs = some x) : ∃ a : CallE, cs = encC a ∧ CallIn W a := by
  obtain ⟨ys, n', hn', hy, hlen, hyl, hf⟩ := DataW.trod_struct Tryd.underlying61 h
  have h8 : cs.length = 8 := hlen.trans (by kernel_rfl)
  match cs, h8 with
  | [v0, v1, v2, v3, v4, v5, v6, v7], _ =>
    have t0 := hf 0 _ rfl
    have t1 := hf 1 _ rfl
    have t2 := hf 2 _ rfl
    have t3 := hf 3 _ rfl
    have ki : Tryd.prog.cellsOf 3 = 1 := by kernel_rfl
    have kr : Tryd.prog.cellsOf 56 = 5 := by kernel_rfl
    simp only [List.getElem_toArray, List.getElem_cons_zero, List.getElem_cons_succ, ki, kr, List.drop_succ_cons, List.drop_zero, List.take_succ_cons, List.take_zero, List.take_nil] at t0 t1 t2 t3
    have l4 : ys.length = 4 := hyl
    obtain ⟨x0, e0, _, _⟩ := DataW.trod_int Tryd.underlying3 (t0.trans (List.getElem?_eq_getElem (by omega)))
    obtain ⟨x1, e1, _, _⟩ := DataW.trod_int Tryd.underlying3 (t1.trans (List.getElem?_eq_getElem (by omega)))
    obtain ⟨x2, e2, _, w2⟩ := DataW.trod_int Tryd.underlying3 (t2.trans (List.getElem?_eq_getElem (by omega)))
    obtain ⟨r, e3, r1, r2, r3, r4, r5⟩ := reg_open (t3.trans (List.getElem?_eq_getElem (by omega)))
    have hb := bounds_i64 w2
    simp at e0 e1 e2 e3
    obtain ⟨rfl, rfl, rfl, rfl, rfl⟩ := e3
    subst e0 e1 e2
    exact ⟨⟨x0, x1, x2, r⟩, rfl, ⟨r1, r2, r3, r4, r5, hb.1, hb.2⟩⟩
theorem calls_open {a : Option Addr} {len cap : Nat} {d : DataW H} {p : List MemPlace} (h : DataW.Trod enc Tryd.prog W 0 (fun _ => true) true 49 (.slice a len cap) d p) :
    ∃ l : List CallE, l.length = len ∧ len ≤ maxLen ∧ RSl encC W a l ∧ ∀ x ∈ l, CallIn W x := by
  obtain ⟨fuel, hf⟩ := h
  obtain ⟨A, xs, c, hv, h1, h2, h3, h4⟩ := slice_open_sub (CallIn W) eltC (by kernel_rfl) (v := .slice a len cap) hf (fun _ _ _ h => call_open h)
  cases hv
  exact ⟨xs, rfl, by omega, h3, h4⟩
end
theorem few_facts {l : List CallE} (h : fewB l = true) : l.length ≤ 40 ∧ ∀ a ∈ l, a.x.text.size ≤ 40 ∧ a.x.rows.length ≤ 6 ∧ ∀ s ∈ a.x.rows, s.size ≤ 40 := by
  unfold fewB at h
  rw [Bool.and_eq_true, List.all_eq_true] at h
  refine ⟨by simpa using h.2, fun a ha => ?_⟩
  have h1 := h.1 a ha
  unfold ltB at h1
  rw [Bool.and_eq_true, Bool.and_eq_true, List.all_eq_true] at h1
  exact ⟨by simpa using h1.1, by simpa using h1.2.2, fun s hs => by simpa using h1.2.1 s hs⟩
set_option maxHeartbeats 1000000 in
theorem regs_bad (A : Option Addr) (cap : Nat) (L : List CallE) (cc : Int) (w : World) (hfew : ∀ w1, Below w.heap.size w w1 → Calls Tryd.prog 23 #[.slice A L.length cap] w1 fun e w' => e = .returned (.bool false) ∧ w1 = w') (hT : Tabs w.heap.size w) :
    Calls Tryd.prog 5 #[.slice A L.length cap, .int .i64 cc] w fun e w' => e = .returned (.bool true) ∧ Below w.heap.size w w' := by
  have HLV := Lib.hid (lives_true hT (Nat.le_refl _))
  have HFW := Lib.hid hfew
  clear hfew hT
  go_enter Tryd.func5, Tryd.ntmps5
  go_wp2_with fail
  refine HLV.out.mono ?_
  rintro e wa ⟨rfl, hba⟩
  go_wp2_with fail
  refine (HFW.out wa hba).mono ?_
  rintro e w' ⟨rfl, rfl⟩
  go_wp2_with fail
  go_ret
  exact ⟨rfl, hba⟩
theorem regs_all (A : Option Addr) (cap : Nat) (L : List CallE) (cc : Int) (w : World) (h : RSl encC w A L) (hl : L.length ≤ maxLen) (hin : ∀ a ∈ L, CallIn w a) (hT : Tabs w.heap.size w) :
    Calls Tryd.prog 5 #[.slice A L.length cap, .int .i64 cc] w fun e w' => e = .returned (.bool true) ∧ Below w.heap.size w w' := by
  unfold maxLen at hl
  have hfew : ∀ w1, Below w.heap.size w w1 → Calls Tryd.prog 23 #[.slice A L.length cap] w1 fun e w' => e = .returned (.bool (fewB L)) ∧ w1 = w' := fun w1 hb =>
    few_any cap (h.up hb) (by omega) (fun a ha => by
      have := hin a ha
      have h1 := this.t
      have h2 := Nat.le_trans this.lc this.mc
      unfold maxLen at h1 h2
      exact ⟨by omega, this.rs.up hb, by omega, fun s hs => by have := this.s s hs; unfold maxLen at this; omega⟩)
  cases hf : fewB L with
  | false => rw [hf] at hfew; exact regs_bad A cap L cc w hfew hT
  | true =>
    rw [hf] at hfew
    have hff := few_facts hf
    exact regs_good A cap L cc w h hff.1 (fun a ha => by
      have h1 := hin a ha
      have h2 := hff.2 a ha
      exact ⟨h1.rs, h1.lc, h1.mc, h2.2.1, h2.2.2, h2.1, h1.n0, h1.n1⟩) hfew hT
end Go.Proofs.YtmnmloebomlllaaDoor
