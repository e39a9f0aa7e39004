/- An argument that is a slice of acts, opened. -/
import Derived.Test.YtlnpjdihdemgmaaMkI
import Derived.Deep.Slices
import Derived.Deep.Fields
import Derived.ChangeSame
import Derived.ProofKit
namespace Go.Proofs.Ytlnpjdihdemgmaa
open Go.ChangeShapes Go.WideShapes Go.Deep Go.RowKit
set_option linter.unusedVariables false
section
variable {H : Type} {enc : TypeId × Value → H} {P : Program} {w : World} {base : Nat} {spare : Nat → Bool} {held : Bool}
theorem open_slice_fields {t e : TypeId} {fs : Array Field} {fuel : Nat} {cs : List Value} {x : DataW H × List MemPlace} (ht : P.underlying t = some (.slice e)) (he : P.underlying e = some (.struct fs))
    (hone : oneCellFields P fs = true) (hC : P.cellsOf e = fs.size) (h : DataW.trod enc P w base spare held fuel t cs = some x) :
    (cs = [.slice none 0 0] ∧ x = (.nil, [])) ∨
    ∃ (a : Addr) (len cap m : Nat), cs = [.slice (some a) len cap] ∧ len ≤ cap ∧ cap ≤ maxLen ∧ m = (if spare a.block then cap else len) ∧
      ∀ i, i < m → ∀ (j : Nat) (f : Field), fs[j]? = some f → ∃ (n : Nat) (v : Value) (y : DataW H × List MemPlace), w.cell? (a.add (i * fs.size + j)) = some v ∧ DataW.trod enc P w base spare held n f.type [v] = some y := by
  rcases open_slice ht h with h0 | ⟨a, len, cap, m, n, D, Pl, hcs, hb, hl, hm, hmm, hx, hi⟩
  · exact .inl h0
  · refine .inr ⟨a, len, cap, m, hcs, hl, hm, hmm, fun i him j f hj => ?_⟩
    obtain ⟨cs', hc, ht'⟩ := hi i him
    rw [hC] at hc
    obtain ⟨ys, n', hn', hy, hlen, hyl, hf⟩ := DataW.trod_struct he ht'
    obtain ⟨_, hcl, hat⟩ := World.cells?_some hc
    obtain ⟨ho, hk⟩ := hone_of hone j f hj
    have hjl : j < fs.size := (Array.getElem?_eq_some_iff.1 hj).1
    have hcell := hat j hjl
    have hv : cs'[j]? = some (cs'[j]'(by omega)) := List.getElem?_eq_getElem (by omega)
    have h1 := hf j f hj
    rw [ho, hk] at h1
    have hone' : (cs'.drop j).take 1 = [cs'[j]'(by omega)] := by
      rw [List.drop_eq_getElem_cons (by omega)]
      rfl
    rw [hone'] at h1
    have hys : ys[j]? = some (ys[j]'(by omega)) := List.getElem?_eq_getElem (by omega)
    refine ⟨_, _, _, ?_, h1.trans hys⟩
    rw [← Go.Deep.add_add, hcell, hv]
end

theorem addr_plain {w : World} {a : Addr} {n : Nat} {v : Value} (h0 : a.spot = none) (h : w.cell? (a.add n) = some v) : w.cell? ⟨a.block, a.off + n, none⟩ = some v := by
  obtain ⟨b, off, spot⟩ := a
  simp only at h0
  subst h0
  rw [← Go.WideShapes.add_plain]; exact h

theorem acts_open {H : Type} {enc : TypeId × Value → H} {W : World} {a : Option Addr} {len cap : Nat} {d : DataW H} {p : List MemPlace} (h : DataW.Trod enc Try.prog W 0 (fun _ => true) true 22 (.slice a len cap) d p) : ∃ l, ActsAt W (.slice a len cap) l := by
  obtain ⟨fuel, hf⟩ := h
  rcases open_slice_fields Try.underlying22 Try.underlying32 (by kernel_rfl) (by kernel_rfl) hf with ⟨hcs, _⟩ | ⟨x, len', cap', m, hcs, hl, hm, hmm, hi⟩
  · simp [Value.cells] at hcs
    obtain ⟨rfl, rfl, rfl⟩ := hcs
    exact ⟨[], .inl ⟨rfl, _, _, rfl⟩⟩
  · simp [Value.cells] at hcs
    obtain ⟨rfl, rfl, rfl⟩ := hcs
    simp only [if_true] at hmm
    subst hmm
    rcases Nat.eq_zero_or_pos len with rfl | hpos
    · exact ⟨[], .inl ⟨rfl, _, _, rfl⟩⟩
    · have hspot : x.spot = none := by
        obtain ⟨n, v, y, hc, _⟩ := hi 0 (by omega) 0 _ rfl
        simpa [Addr.add] using World.cell?_spot hc
      have hcell : ∀ i, i < len → ∃ a : Act6, ActAt W x.block (x.off + i * 6) a := by
        intro i hlt
        have hii := hi i (by omega)
        obtain ⟨n0, v0, y0, c0, t0⟩ := hii 0 _ rfl
        obtain ⟨n1, v1, y1, c1, t1⟩ := hii 1 _ rfl
        obtain ⟨n2, v2, y2, c2, t2⟩ := hii 2 _ rfl
        obtain ⟨n3, v3, y3, c3, t3⟩ := hii 3 _ rfl
        obtain ⟨n4, v4, y4, c4, t4⟩ := hii 4 _ rfl
        obtain ⟨n5, v5, y5, c5, t5⟩ := hii 5 _ rfl
        obtain ⟨x0, e0, _, _⟩ := DataW.trod_int Try.underlying3 t0
        obtain ⟨x1, e1, _, _⟩ := DataW.trod_int Try.underlying3 t1
        obtain ⟨x2, e2, _, _⟩ := DataW.trod_int Try.underlying3 t2
        obtain ⟨x3, e3, _, _⟩ := DataW.trod_int Try.underlying3 t3
        obtain ⟨x4, e4, _, _⟩ := DataW.trod_int Try.underlying3 t4
        obtain ⟨x5, e5, _⟩ := DataW.trod_bool Try.underlying4 t5
        simp at e0 e1 e2 e3 e4 e5
        subst e0 e1 e2 e3 e4 e5
        refine ⟨⟨x0, x1, x2, x3, x4, x5⟩, ?_, ?_, ?_, ?_, ?_, ?_⟩
        · exact addr_plain hspot c0
        · exact addr_plain hspot c1
        · exact addr_plain hspot c2
        · exact addr_plain hspot c3
        · exact addr_plain hspot c4
        · exact addr_plain hspot c5
      obtain ⟨l, hll, hla⟩ : ∃ l : List Act6, l.length = len ∧ ∀ (i : Nat) (a : Act6), l[i]? = some a → ActAt W x.block (x.off + i * 6) a := by
        have : ∀ k, k ≤ len → ∃ l : List Act6, l.length = k ∧ ∀ (i : Nat) (a : Act6), l[i]? = some a → ActAt W x.block (x.off + i * 6) a := by
          intro k
          induction k with
          | zero => intro _; exact ⟨[], rfl, fun i a h => by simp at h⟩
          | succ k ih =>
            intro hk
            obtain ⟨l, h1, h2⟩ := ih (by omega)
            obtain ⟨a, ha⟩ := hcell k (by omega)
            refine ⟨l ++ [a], by simp [h1], fun i a' h => ?_⟩
            rw [List.getElem?_append] at h
            split at h
            · exact h2 i a' h
            · rename_i hge
              have : i = k := by
                have := (List.getElem?_eq_some_iff.1 h).1
                simp at this; omega
              subst this
              simp [h1] at h
              subst h; exact ha
        exact this len (Nat.le_refl _)
      obtain ⟨b, off, spot⟩ := x
      simp only at hspot
      subst hspot
      refine ⟨l, .inr ⟨b, off, _, by rw [hll], by omega, by omega, hm, ?_, hla⟩⟩
      obtain ⟨a0, ha0⟩ := hcell 0 hpos
      exact lt_of_cell ha0.1
end Go.Proofs.Ytlnpjdihdemgmaa
