/- Arguments that are rows, opened. -/
import Derived.Test.YtnpamchdflfboaaRwL
import Derived.Deep.Slices
import Derived.Deep.Fields
import Derived.ChangeSame
import Derived.ProofKit
namespace Go.Proofs.Ytnpamchdflfboaa
open Go.ChangeShapes Go.WideShapes Go.Deep Go.RowKit
set_option linter.unusedVariables false
set_option linter.unusedSimpArgs false
section
variable {H : Type} {enc : TypeId × Value → H} {W : World}
theorem look_open {n : Nat} {cs : List Value} {x : DataW H × List MemPlace} (h : DataW.trod enc Try.prog W 0 (fun _ => true) true n 68 cs = some x) : ∃ (b c : Int) (u v z : Bool), cs = [.int .i64 b, .int .i64 c, .bool u, .bool v, .bool z] := by
  obtain ⟨ys, n', hn', hy, hlen, hyl, hf⟩ := DataW.trod_struct Try.underlying68 h
  have h5 : cs.length = 5 := hlen.trans (by kernel_rfl)
  match cs, h5 with
  | [v0, v1, v2, v3, v4], _ =>
    have t0 := hf 0 _ rfl
    have t1 := hf 1 _ rfl
    have t2 := hf 2 _ rfl
    have t3 := hf 3 _ rfl
    have t4 := hf 4 _ rfl
    have ki : Try.prog.cellsOf 3 = 1 := by kernel_rfl
    have kb : Try.prog.cellsOf 4 = 1 := by kernel_rfl
    simp only [List.getElem_toArray, List.getElem_cons_zero, List.getElem_cons_succ, ki, kb, List.drop_succ_cons, List.drop_zero, List.take_succ_cons, List.take_zero] at t0 t1 t2 t3 t4
    have l5 : ys.length = 5 := hyl
    obtain ⟨x0, e0, _, _⟩ := DataW.trod_int Try.underlying3 (t0.trans (List.getElem?_eq_getElem (by omega)))
    obtain ⟨x1, e1, _, _⟩ := DataW.trod_int Try.underlying3 (t1.trans (List.getElem?_eq_getElem (by omega)))
    obtain ⟨x2, e2, _⟩ := DataW.trod_bool Try.underlying4 (t2.trans (List.getElem?_eq_getElem (by omega)))
    obtain ⟨x3, e3, _⟩ := DataW.trod_bool Try.underlying4 (t3.trans (List.getElem?_eq_getElem (by omega)))
    obtain ⟨x4, e4, _⟩ := DataW.trod_bool Try.underlying4 (t4.trans (List.getElem?_eq_getElem (by omega)))
    simp at e0 e1 e2 e3 e4
    subst e0 e1 e2 e3 e4
    exact ⟨_, _, _, _, _, rfl⟩
theorem cell_open {n : Nat} {cs : List Value} {x : DataW H × List MemPlace} (h : DataW.trod enc Try.prog W 0 (fun _ => true) true n 70 cs = some x) : ∃ c : CellE, cs = encC c := by
  obtain ⟨ys, n', hn', hy, hlen, hyl, hf⟩ := DataW.trod_struct Try.underlying70 h
  have h6 : cs.length = 6 := hlen.trans (by kernel_rfl)
  match cs, h6 with
  | [v0, v1, v2, v3, v4, v5], _ =>
    have t0 := hf 0 _ rfl
    have t1 := hf 1 _ rfl
    have ki : Try.prog.cellsOf 3 = 1 := by kernel_rfl
    have kl : Try.prog.cellsOf 68 = 5 := by kernel_rfl
    simp only [List.getElem_toArray, List.getElem_cons_zero, List.getElem_cons_succ, ki, kl, List.drop_succ_cons, List.drop_zero, List.take_succ_cons, List.take_zero, List.take_nil] at t0 t1
    have l2 : ys.length = 2 := hyl
    obtain ⟨x0, e0, _, _⟩ := DataW.trod_int Try.underlying3 (t0.trans (List.getElem?_eq_getElem (by omega)))
    obtain ⟨b, c, u, v, z, e1⟩ := look_open (t1.trans (List.getElem?_eq_getElem (by omega)))
    simp at e0 e1
    obtain ⟨rfl, rfl, rfl, rfl, rfl⟩ := e1
    subst e0
    exact ⟨⟨_, _, _, _, _, _⟩, rfl⟩
/-- A slice read as a list, its elements opened one by one. -/
theorem slice_open {α : Type} {encx : α → List Value} {T E k by_ : Nat} {z : Value} (I : Elt encx T E k by_ z) (hC : Try.prog.cellsOf E = k) {n : Nat} {v : Value} {x : DataW H × List MemPlace} (h : DataW.trod enc Try.prog W 0 (fun _ => true) true n T [v] = some x)
    (hel : ∀ (n : Nat) (cs : List Value) (x : DataW H × List MemPlace), DataW.trod enc Try.prog W 0 (fun _ => true) true n E cs = some x → ∃ a : α, cs = encx a) :
    ∃ (A : Option Addr) (xs : List α) (c : Nat), v = .slice A xs.length c ∧ xs.length ≤ c ∧ c ≤ maxLen ∧ RSl encx W A xs := by
  rcases open_slice I.ht h with ⟨h0, _⟩ | ⟨a, len, cap, m, n', D, Pl, hcs, hb, hl, hm, hmm, hx, hi⟩
  · simp at h0
    exact ⟨none, [], 0, h0, Nat.le_refl _, by unfold maxLen; omega, RSl.nil _ _⟩
  · simp at hcs
    subst hcs
    simp only [if_true] at hmm
    subst hmm
    rcases Nat.eq_zero_or_pos len with rfl | hpos
    · exact ⟨some a, [], m, rfl, hl, hm, RSl.nil _ _⟩
    · have hcell : ∀ i, i < len → ∃ y : α, ∀ j u, (encx y)[j]? = some u → W.cell? ((a.add (i * k)).add j) = some u := by
        intro i hlt
        obtain ⟨cs', hc, ht'⟩ := hi i (by omega)
        rw [hC] at hc
        obtain ⟨y, rfl⟩ := hel _ _ _ ht'
        obtain ⟨_, hcl, hat⟩ := World.cells?_some hc
        refine ⟨y, fun j u hu => ?_⟩
        have hj : j < k := by have := (List.getElem?_eq_some_iff.1 hu).1; rwa [I.len] at this
        rw [hat j hj]; exact hu
      have hspot : a.spot = none := by
        obtain ⟨y, hy⟩ := hcell 0 hpos
        have hk0 : 0 < (encx y).length := by rw [I.len]; exact I.k0
        have := hy 0 _ (List.getElem?_eq_getElem hk0)
        simpa [Addr.add] using World.cell?_spot this
      obtain ⟨l, hll, hla⟩ : ∃ l : List α, l.length = len ∧ ∀ (i : Nat) (y : α), l[i]? = some y → ∀ j u, (encx y)[j]? = some u → W.cell? ((a.add (i * k)).add j) = some u := by
        have : ∀ q, q ≤ len → ∃ l : List α, l.length = q ∧ ∀ (i : Nat) (y : α), l[i]? = some y → ∀ j u, (encx y)[j]? = some u → W.cell? ((a.add (i * k)).add j) = some u := by
          intro q
          induction q with
          | zero => intro _; exact ⟨[], rfl, fun i a h => by simp at h⟩
          | succ q ih =>
            intro hk
            obtain ⟨l, h1, h2⟩ := ih (by omega)
            obtain ⟨y, hy⟩ := hcell q (by omega)
            refine ⟨l ++ [y], by simp [h1], fun i a' h => ?_⟩
            rw [List.getElem?_append] at h
            split at h
            · exact h2 i a' h
            · rename_i hge
              have : i = q := by
                have := (List.getElem?_eq_some_iff.1 h).1
                simp at this; omega
              subst this
              simp [h1] at h
              subst h; exact hy
        exact this len (Nat.le_refl _)
      obtain ⟨b, off, spot⟩ := a
      simp only at hspot
      subst hspot
      refine ⟨_, l, m, by rw [hll], by omega, hm, fun _ => ⟨b, off, rfl, ?_, fun j u hu => ?_⟩⟩
      · obtain ⟨y, hy⟩ := hcell 0 hpos
        have hk0 : 0 < (encx y).length := by rw [I.len]; exact I.k0
        have h1 := hy 0 _ (List.getElem?_eq_getElem hk0)
        rw [Go.WideShapes.add_plain, Go.WideShapes.add_plain] at h1
        exact lt_of_cell h1
      · have hk0 := I.k0
        have hj : j < l.length * k := by have := (List.getElem?_eq_some_iff.1 hu).1; rwa [cellsL_length I.len] at this
        have hq : j / k < l.length := Nat.div_lt_of_lt_mul (by rwa [Nat.mul_comm] at hj)
        obtain ⟨y, hy⟩ : ∃ y, l[j / k]? = some y := ⟨_, List.getElem?_eq_getElem hq⟩
        have h1 := cellsL_at I.len l (j / k) y (j % k) hy (Nat.mod_lt _ hk0)
        have he : j / k * k + j % k = j := by rw [Nat.mul_comm]; exact Nat.div_add_mod _ _
        rw [he, hu] at h1
        have h2 := hla _ y hy (j % k) u h1.symm
        rw [Go.WideShapes.add_plain, Go.WideShapes.add_plain, Nat.add_assoc, he] at h2
        exact h2
theorem row_open {n : Nat} {cs : List Value} {x : DataW H × List MemPlace} (h : DataW.trod enc Try.prog W 0 (fun _ => true) true n 40 cs = some x) : ∃ e : { e : RowE // InE W e }, cs = encR e.1 := by
  obtain ⟨ys, n', hn', hy, hlen, hyl, hf⟩ := DataW.trod_struct Try.underlying40 h
  have h5 : cs.length = 5 := hlen.trans (by kernel_rfl)
  match cs, h5 with
  | [v0, v1, v2, v3, v4], _ =>
    have t0 := hf 0 _ rfl
    have t1 := hf 1 _ rfl
    have t2 := hf 2 _ rfl
    have t3 := hf 3 _ rfl
    have t4 := hf 4 _ rfl
    have ki : Try.prog.cellsOf 3 = 1 := by kernel_rfl
    have kb : Try.prog.cellsOf 4 = 1 := by kernel_rfl
    have kc : Try.prog.cellsOf 37 = 1 := by kernel_rfl
    have kp : Try.prog.cellsOf 38 = 1 := by kernel_rfl
    simp only [List.getElem_toArray, List.getElem_cons_zero, List.getElem_cons_succ, ki, kb, kc, kp, List.drop_succ_cons, List.drop_zero, List.take_succ_cons, List.take_zero] at t0 t1 t2 t3 t4
    have l5 : ys.length = 5 := hyl
    obtain ⟨A1, xs1, c1, rfl, p1, q1, r1⟩ := slice_open eltC (by kernel_rfl) (t0.trans (List.getElem?_eq_getElem (by omega))) (fun _ _ _ h => cell_open h)
    obtain ⟨A2, xs2, c2, rfl, p2, q2, r2⟩ := slice_open eltI (by kernel_rfl) (t1.trans (List.getElem?_eq_getElem (by omega))) (fun _ _ _ h => by
      obtain ⟨x0, e0, _, _⟩ := DataW.trod_int Try.underlying3 h
      exact ⟨x0, e0⟩)
    obtain ⟨x2, e2, _, _⟩ := DataW.trod_int Try.underlying3 (t2.trans (List.getElem?_eq_getElem (by omega)))
    obtain ⟨x3, e3, _, _⟩ := DataW.trod_int Try.underlying3 (t3.trans (List.getElem?_eq_getElem (by omega)))
    obtain ⟨x4, e4, _⟩ := DataW.trod_bool Try.underlying4 (t4.trans (List.getElem?_eq_getElem (by omega)))
    simp at e2 e3 e4
    subst e2 e3 e4
    exact ⟨⟨⟨A1, c1, xs1, A2, c2, xs2, x2, x3, x4⟩, ⟨r1, r2, p1, p2, q1, q2⟩⟩, rfl⟩
theorem eltRS : Elt (fun e : { e : RowE // InE W e } => encR e.1) 36 40 5 72 (.agg #[.slice none 0 0, .slice none 0 0, .int .i64 0, .int .i64 0, .bool false]) :=
  ⟨eltR.ht, eltR.info, eltR.zs, eltR.k0, fun x => eltR.len x.1, fun x => eltR.one x.1⟩
theorem rows_open {a : Option Addr} {len cap : Nat} {d : DataW H} {p : List MemPlace} (h : DataW.Trod enc Try.prog W 0 (fun _ => true) true 36 (.slice a len cap) d p) :
    ∃ l : List RowE, l.length = len ∧ len ≤ maxLen ∧ RowsAt W a l := by
  obtain ⟨fuel, hf⟩ := h
  obtain ⟨A, xs, c, hv, h1, h2, h3⟩ := slice_open (eltRS (W := W)) (by kernel_rfl) (v := .slice a len cap) hf (fun _ _ _ h => row_open h)
  cases hv
  refine ⟨xs.map (·.1), by simp, by omega, ?_, ?_⟩
  · intro hp
    rw [List.length_map] at hp
    obtain ⟨g, o, e, hg, hc⟩ := h3 hp
    refine ⟨g, o, e, hg, fun j u hu => hc j u ?_⟩
    rw [← hu]
    unfold cellsL
    rw [List.flatMap_map]
  · intro e he
    obtain ⟨y, _, rfl⟩ := List.mem_map.1 he
    exact y.2
end
end Go.Proofs.Ytnpamchdflfboaa
