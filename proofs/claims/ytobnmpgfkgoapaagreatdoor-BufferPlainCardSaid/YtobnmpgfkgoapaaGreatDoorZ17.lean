import Derived.Test.YtobnmpgfkgoapaaGreatDoorZ01
import Derived.Deep.Slices
import Derived.Deep.Fields
import Derived.ChangeSame
import Derived.ProofKit
import Derived.Test.YtobnmpgfkgoapaaGreatDoorZ16
import Derived.OpenShut
/- A slice that came in, opened: its elements one by one. -/
namespace Go.Proofs.YtobnmpgfkgoapaaGreatDoor
open Go.ChangeShapes Go.WideShapes Go.Deep Go.RowKit
set_option linter.unusedVariables false
set_option linter.unusedSimpArgs false
section
variable {H : Type} {enc : TypeId × Value → H} {W : World}
/-- A slice read as a list, its elements opened one by one. -/
theorem slice_open {α : Type} {encx : α → List Value} {T E k by_ : Nat} {z : Value} (I : Elt encx T E k by_ z) (hC : Tryz.prog.cellsOf E = k) {n : Nat} {v : Value} {x : DataW H × List MemPlace} (h : DataW.trod enc Tryz.prog W 0 (fun _ => true) true n T [v] = some x)
    (hel : ∀ (n : Nat) (cs : List Value) (x : DataW H × List MemPlace), DataW.trod enc Tryz.prog W 0 (fun _ => true) true n E cs = some x → ∃ a : α, cs = encx a) :
    ∃ (A : Option Addr) (xs : List α) (c : Nat), v = .slice A xs.length c ∧ xs.length ≤ c ∧ c ≤ maxLen ∧ RSl encx W A xs := by
  rcases open_slice I.ht h with ⟨h0, _⟩ | ⟨a, len, cap, m, n', D, Pl, hcs, hb, hl, hm, hmm, hx, hi⟩
  · simp at h0
    exact ⟨none, [], 0, h0, Nat.le_refl _, by unfold maxLen; omega, RSl.nil _ _⟩
  · simp at hcs
    subst hcs
    simp only [if_true] at hmm
    subst hmm
    rcases Nat.eq_zero_or_pos len with rfl | hpos
    · exact ⟨some a, [], m, rfl, hl, hm, RSl.nil _ _⟩
    · have hcell : ∀ i, i < len → ∃ y : α, ∀ j u, (encx y)[j]? = some u → W.cell? ((a.add (i * k)).add j) = some u := by
        intro i hlt
        obtain ⟨cs', hc, ht'⟩ := hi i (by omega)
        rw [hC] at hc
        obtain ⟨y, rfl⟩ := hel _ _ _ ht'
        obtain ⟨_, hcl, hat⟩ := World.cells?_some hc
        refine ⟨y, fun j u hu => ?_⟩
        have hj : j < k := by have := (List.getElem?_eq_some_iff.1 hu).1; rwa [I.len] at this
        rw [hat j hj]; exact hu
      have hspot : a.spot = none := by
        obtain ⟨y, hy⟩ := hcell 0 hpos
        have hk0 : 0 < (encx y).length := by rw [I.len]; exact I.k0
        have := hy 0 _ (List.getElem?_eq_getElem hk0)
        simpa [Addr.add] using World.cell?_spot this
      obtain ⟨l, hll, hla⟩ : ∃ l : List α, l.length = len ∧ ∀ (i : Nat) (y : α), l[i]? = some y → ∀ j u, (encx y)[j]? = some u → W.cell? ((a.add (i * k)).add j) = some u := by
        have : ∀ q, q ≤ len → ∃ l : List α, l.length = q ∧ ∀ (i : Nat) (y : α), l[i]? = some y → ∀ j u, (encx y)[j]? = some u → W.cell? ((a.add (i * k)).add j) = some u := by
          intro q
          induction q with
          | zero => intro _; exact ⟨[], rfl, fun i a h => by simp at h⟩
          | succ q ih =>
            intro hk
            obtain ⟨l, h1, h2⟩ := ih (by omega)
            obtain ⟨y, hy⟩ := hcell q (by omega)
            refine ⟨l ++ [y], by simp [h1], fun i a' h => ?_⟩
            rw [List.getElem?_append] at h
            split at h
            · exact h2 i a' h
            · rename_i hge
              have : i = q := by
                have := (List.getElem?_eq_some_iff.1 h).1
                simp at this; omega
              subst this
              simp [h1] at h
              subst h; exact hy
        exact this len (Nat.le_refl _)
      obtain ⟨b, off, spot⟩ := a
      simp only at hspot
      subst hspot
      refine ⟨_, l, m, by rw [hll], by omega, hm, fun _ => ⟨b, off, rfl, ?_, fun j u hu => ?_⟩⟩
      · obtain ⟨y, hy⟩ := hcell 0 hpos
        have hk0 : 0 < (encx y).length := by rw [I.len]; exact I.k0
        have h1 := hy 0 _ (List.getElem?_eq_getElem hk0)
        rw [Go.WideShapes.add_plain, Go.WideShapes.add_plain] at h1
        exact lt_of_cell h1
      · have hk0 := I.k0
        have hj : j < l.length * k := by have := (List.getElem?_eq_some_iff.1 hu).1; rwa [cellsL_length I.len] at this
        have hq : j / k < l.length := Nat.div_lt_of_lt_mul (by rwa [Nat.mul_comm] at hj)
        obtain ⟨y, hy⟩ : ∃ y, l[j / k]? = some y := ⟨_, List.getElem?_eq_getElem hq⟩
        have h1 := cellsL_at I.len l (j / k) y (j % k) hy (Nat.mod_lt _ hk0)
        have he : j / k * k + j % k = j := by rw [Nat.mul_comm]; exact Nat.div_add_mod _ _
        rw [he, hu] at h1
        have h2 := hla _ y hy (j % k) u h1.symm
        rw [Go.WideShapes.add_plain, Go.WideShapes.add_plain, Nat.add_assoc, he] at h2
        exact h2
theorem eltSub {α : Type} {encx : α → List Value} {T E k by_ : Nat} {z : Value} (Q : α → Prop) (I : Elt encx T E k by_ z) : Elt (fun e : { e : α // Q e } => encx e.1) T E k by_ z :=
  ⟨I.ht, I.info, I.zs, I.k0, fun x => I.len x.1, fun x => I.one x.1⟩
/-- A slice whose elements have each a property. -/
theorem slice_open_sub {α : Type} {encx : α → List Value} {T E k by_ : Nat} {z : Value} (Q : α → Prop) (I : Elt encx T E k by_ z) (hC : Tryz.prog.cellsOf E = k) {n : Nat} {v : Value} {x : DataW H × List MemPlace} (h : DataW.trod enc Tryz.prog W 0 (fun _ => true) true n T [v] = some x)
    (hel : ∀ (n : Nat) (cs : List Value) (x : DataW H × List MemPlace), DataW.trod enc Tryz.prog W 0 (fun _ => true) true n E cs = some x → ∃ a : α, cs = encx a ∧ Q a) :
    ∃ (A : Option Addr) (xs : List α) (c : Nat), v = .slice A xs.length c ∧ xs.length ≤ c ∧ c ≤ maxLen ∧ RSl encx W A xs ∧ ∀ a ∈ xs, Q a := by
  obtain ⟨A, xs, c, rfl, h1, h2, h3⟩ := slice_open (eltSub Q I) hC h (fun n cs x h => by obtain ⟨a, e, q⟩ := hel n cs x h; exact ⟨⟨a, q⟩, e⟩)
  refine ⟨A, xs.map (·.1), c, by simp, by simpa using h1, h2, fun hp => ?_, fun e he => ?_⟩
  · rw [List.length_map] at hp
    obtain ⟨g, o, e, hg, hc⟩ := h3 hp
    refine ⟨g, o, e, hg, fun j u hu => hc j u ?_⟩
    rw [← hu]
    unfold cellsL
    rw [List.flatMap_map]
  · obtain ⟨y, _, rfl⟩ := List.mem_map.1 he
    exact y.2
end
end Go.Proofs.YtobnmpgfkgoapaaGreatDoor
/- copyistlaw20: acts that came in as an argument. -/
namespace Go.Proofs.YtobnmpgfkgoapaaGreatDoor
open Go.ChangeShapes Go.WideShapes Go.Deep Go.RowKit
set_option linter.unusedVariables false
set_option linter.unusedSimpArgs false
section
variable {H : Type} {enc : TypeId × Value → H} {W : World}
set_option maxRecDepth 100000 in
theorem word_open {n : Nat} {cs : List Value} {x : DataW H × List MemPlace} (h : DataW.trod enc Tryz.prog W 0 (fun _ => true) true n 31 cs = some x) : ∃ a b : Int, cs = [.int .i64 a, .int .i64 b] := by
  obtain ⟨ys, n', hn', hy, hlen, hyl, hf⟩ := DataW.trod_struct Tryz.underlying31 h
  have h2 : cs.length = 2 := hlen.trans (by kernel_rfl)
  match cs, h2 with
  | [v0, v1], _ =>
    have t0 := hf 0 _ rfl
    have t1 := hf 1 _ rfl
    have ki : Tryz.prog.cellsOf 3 = 1 := by kernel_rfl
    simp only [List.getElem_toArray, List.getElem_cons_zero, List.getElem_cons_succ, ki, List.drop_succ_cons, List.drop_zero, List.take_succ_cons, List.take_zero] at t0 t1
    have l2 : ys.length = 2 := hyl
    obtain ⟨x0, e0, _, _⟩ := DataW.trod_int Tryz.underlying3 (t0.trans (List.getElem?_eq_getElem (by omega)))
    obtain ⟨x1, e1, _, _⟩ := DataW.trod_int Tryz.underlying3 (t1.trans (List.getElem?_eq_getElem (by omega)))
    simp at e0 e1
    subst e0 e1
    exact ⟨_, _, rfl⟩
set_option maxRecDepth 100000 in
theorem span_open {n : Nat} {cs : List Value} {x : DataW H × List MemPlace} (h : DataW.trod enc Tryz.prog W 0 (fun _ => true) true n 52 cs = some x) : ∃ e : SpE, cs = encSpn e := by
  obtain ⟨ys, n', hn', hy, hlen, hyl, hf⟩ := DataW.trod_struct Tryz.underlying52 h
  have h3 : cs.length = 3 := hlen.trans (by kernel_rfl)
  match cs, h3 with
  | [v0, v1, v2], _ =>
    have t0 := hf 0 _ rfl
    have t1 := hf 1 _ rfl
    have t2 := hf 2 _ rfl
    have ki : Tryz.prog.cellsOf 3 = 1 := by kernel_rfl
    have kl : Tryz.prog.cellsOf 50 = 1 := by kernel_rfl
    simp only [List.getElem_toArray, List.getElem_cons_zero, List.getElem_cons_succ, ki, kl, List.drop_succ_cons, List.drop_zero, List.take_succ_cons, List.take_zero] at t0 t1 t2
    have l3 : ys.length = 3 := hyl
    obtain ⟨x0, e0, _, _⟩ := DataW.trod_int Tryz.underlying3 (t0.trans (List.getElem?_eq_getElem (by omega)))
    obtain ⟨x1, e1, _, _⟩ := DataW.trod_int Tryz.underlying3 (t1.trans (List.getElem?_eq_getElem (by omega)))
    have e2 : ∃ A n c, v2 = .slice A n c := by
      rcases open_slice Tryz.underlying50 (t2.trans (List.getElem?_eq_getElem (by omega))) with ⟨h0, _⟩ | ⟨a, len, cap, m, n', D, Pl, hcs, _⟩
      · simp at h0; exact ⟨_, _, _, h0⟩
      · simp at hcs; exact ⟨_, _, _, hcs⟩
    obtain ⟨A, n, c, rfl⟩ := e2
    simp at e0 e1
    subst e0 e1
    exact ⟨⟨_, _, A, n, c⟩, rfl⟩
/-- What is known of an act that came in. -/
structure ActIn (w : World) (e : AcE) : Prop where
  s : RSl encSpn w e.sA e.sp ∧ e.sp.length ≤ maxLen
  z : e.tx.size ≤ maxLen
set_option maxRecDepth 100000 in
theorem act20_open {n : Nat} {cs : List Value} {x : DataW H × List MemPlace} (h : DataW.trod enc Tryz.prog W 0 (fun _ => true) true n 34 cs = some x) : ∃ e : AcE, cs = encA e ∧ ActIn W e := by
  obtain ⟨ys, n', hn', hy, hlen, hyl, hf⟩ := DataW.trod_struct Tryz.underlying34 h
  have h11 : cs.length = 11 := hlen.trans (by kernel_rfl)
  match cs, h11 with
  | [v0, v1, v2, v3, v4, v5, v6, v7, v8, v9, v10], _ =>
    have t0 := hf 0 _ rfl
    have t1 := hf 1 _ rfl
    have t2 := hf 2 _ rfl
    have t3 := hf 3 _ rfl
    have t4 := hf 4 _ rfl
    have t5 := hf 5 _ rfl
    have t6 := hf 6 _ rfl
    have t7 := hf 7 _ rfl
    have t8 := hf 8 _ rfl
    have t9 := hf 9 _ rfl
    have ki : Tryz.prog.cellsOf 3 = 1 := by kernel_rfl
    have ks : Tryz.prog.cellsOf 9 = 1 := by kernel_rfl
    have kb : Tryz.prog.cellsOf 4 = 1 := by kernel_rfl
    have kw : Tryz.prog.cellsOf 31 = 2 := by kernel_rfl
    have kl : Tryz.prog.cellsOf 32 = 1 := by kernel_rfl
    simp only [List.getElem_toArray, List.getElem_cons_zero, List.getElem_cons_succ, ki, ks, kb, kw, kl, List.drop_succ_cons, List.drop_zero, List.take_succ_cons, List.take_zero, List.take_nil] at t0 t1 t2 t3 t4 t5 t6 t7 t8 t9
    have l10 : ys.length = 10 := hyl
    obtain ⟨x0, e0, _, _⟩ := DataW.trod_int Tryz.underlying3 (t0.trans (List.getElem?_eq_getElem (by omega)))
    obtain ⟨x1, e1, _, _⟩ := DataW.trod_int Tryz.underlying3 (t1.trans (List.getElem?_eq_getElem (by omega)))
    obtain ⟨x2, e2, _, _⟩ := DataW.trod_int Tryz.underlying3 (t2.trans (List.getElem?_eq_getElem (by omega)))
    obtain ⟨x3, e3, _, _⟩ := DataW.trod_int Tryz.underlying3 (t3.trans (List.getElem?_eq_getElem (by omega)))
    obtain ⟨x4, e4, _, _⟩ := DataW.trod_int Tryz.underlying3 (t4.trans (List.getElem?_eq_getElem (by omega)))
    obtain ⟨x5, e5, _, hs5⟩ := DataW.trod_string Tryz.underlying9 (t5.trans (List.getElem?_eq_getElem (by omega)))
    obtain ⟨x6, e6, _⟩ := DataW.trod_bool Tryz.underlying4 (t6.trans (List.getElem?_eq_getElem (by omega)))
    obtain ⟨x7, e7, _⟩ := DataW.trod_bool Tryz.underlying4 (t7.trans (List.getElem?_eq_getElem (by omega)))
    obtain ⟨x8, x9, e8⟩ := word_open (t8.trans (List.getElem?_eq_getElem (by omega)))
    obtain ⟨A, xs, c, rfl, p1, q1, r1⟩ := slice_open eltSpn (by kernel_rfl) (t9.trans (List.getElem?_eq_getElem (by omega))) (fun _ _ _ h => span_open h)
    simp at e0 e1 e2 e3 e4 e5 e6 e7 e8
    obtain ⟨rfl, rfl⟩ := e8
    subst e0 e1 e2 e3 e4 e5 e6 e7
    exact ⟨⟨x0, x1, x2, x3, x4, x5, x6, x7, x8, x9, A, xs, c⟩, rfl, ⟨r1, Nat.le_trans p1 q1⟩, hs5⟩
theorem acts20_open {a : Option Addr} {len cap : Nat} {d : DataW H} {p : List MemPlace} (h : DataW.Trod enc Tryz.prog W 0 (fun _ => true) true 22 (.slice a len cap) d p) :
    ∃ l : List AcE, l.length = len ∧ l.length ≤ 9223372036854775807 ∧ ActsAt W a l := by
  obtain ⟨fuel, hf⟩ := h
  obtain ⟨A, xs, c, hv, h1, h2, h3, h4⟩ := slice_open_sub (ActIn W) eltA (by kernel_rfl) (v := .slice a len cap) hf (fun _ _ _ h => act20_open h)
  have hm : maxLen = 9223372036854775807 := by decide
  cases hv
  exact ⟨xs, rfl, by omega, ⟨h3, fun e he => ⟨(h4 e he).s.1, by have := (h4 e he).s.2; omega⟩, fun e he => by have := (h4 e he).z; omega⟩⟩
end
end Go.Proofs.YtobnmpgfkgoapaaGreatDoor
