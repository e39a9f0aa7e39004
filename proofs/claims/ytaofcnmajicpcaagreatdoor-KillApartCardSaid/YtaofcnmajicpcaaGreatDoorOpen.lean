/- A slice that came in, opened: its elements one by one. -/
import Derived.Test.YtaofcnmajicpcaaGreatDoorSeg
import Derived.Deep.Slices
import Derived.Deep.Fields
import Derived.ChangeSame
import Derived.ProofKit
namespace Go.Proofs.YtaofcnmajicpcaaGreatDoor
open Go.ChangeShapes Go.WideShapes Go.Deep Go.RowKit
set_option linter.unusedVariables false
set_option linter.unusedSimpArgs false
section
variable {H : Type} {enc : TypeId × Value → H} {W : World}
/-- A slice read as a list, its elements opened one by one. -/
theorem slice_open {α : Type} {encx : α → List Value} {T E k by_ : Nat} {z : Value} (I : Elt encx T E k by_ z) (hC : Tryz.prog.cellsOf E = k) {n : Nat} {v : Value} {x : DataW H × List MemPlace} (h : DataW.trod enc Tryz.prog W 0 (fun _ => true) true n T [v] = some x)
    (hel : ∀ (n : Nat) (cs : List Value) (x : DataW H × List MemPlace), DataW.trod enc Tryz.prog W 0 (fun _ => true) true n E cs = some x → ∃ a : α, cs = encx a) :
    ∃ (A : Option Addr) (xs : List α) (c : Nat), v = .slice A xs.length c ∧ xs.length ≤ c ∧ c ≤ maxLen ∧ RSl encx W A xs := by
  rcases open_slice I.ht h with ⟨h0, _⟩ | ⟨a, len, cap, m, n', D, Pl, hcs, hb, hl, hm, hmm, hx, hi⟩
  · simp at h0
    exact ⟨none, [], 0, h0, Nat.le_refl _, by unfold maxLen; omega, RSl.nil _ _⟩
  · simp at hcs
    subst hcs
    simp only [if_true] at hmm
    subst hmm
    rcases Nat.eq_zero_or_pos len with rfl | hpos
    · exact ⟨some a, [], m, rfl, hl, hm, RSl.nil _ _⟩
    · have hcell : ∀ i, i < len → ∃ y : α, ∀ j u, (encx y)[j]? = some u → W.cell? ((a.add (i * k)).add j) = some u := by
        intro i hlt
        obtain ⟨cs', hc, ht'⟩ := hi i (by omega)
        rw [hC] at hc
        obtain ⟨y, rfl⟩ := hel _ _ _ ht'
        obtain ⟨_, hcl, hat⟩ := World.cells?_some hc
        refine ⟨y, fun j u hu => ?_⟩
        have hj : j < k := by have := (List.getElem?_eq_some_iff.1 hu).1; rwa [I.len] at this
        rw [hat j hj]; exact hu
      have hspot : a.spot = none := by
        obtain ⟨y, hy⟩ := hcell 0 hpos
        have hk0 : 0 < (encx y).length := by rw [I.len]; exact I.k0
        have := hy 0 _ (List.getElem?_eq_getElem hk0)
        simpa [Addr.add] using World.cell?_spot this
      obtain ⟨l, hll, hla⟩ : ∃ l : List α, l.length = len ∧ ∀ (i : Nat) (y : α), l[i]? = some y → ∀ j u, (encx y)[j]? = some u → W.cell? ((a.add (i * k)).add j) = some u := by
        have : ∀ q, q ≤ len → ∃ l : List α, l.length = q ∧ ∀ (i : Nat) (y : α), l[i]? = some y → ∀ j u, (encx y)[j]? = some u → W.cell? ((a.add (i * k)).add j) = some u := by
          intro q
          induction q with
          | zero => intro _; exact ⟨[], rfl, fun i a h => by simp at h⟩
          | succ q ih =>
            intro hk
            obtain ⟨l, h1, h2⟩ := ih (by omega)
            obtain ⟨y, hy⟩ := hcell q (by omega)
            refine ⟨l ++ [y], by simp [h1], fun i a' h => ?_⟩
            rw [List.getElem?_append] at h
            split at h
            · exact h2 i a' h
            · rename_i hge
              have : i = q := by
                have := (List.getElem?_eq_some_iff.1 h).1
                simp at this; omega
              subst this
              simp [h1] at h
              subst h; exact hy
        exact this len (Nat.le_refl _)
      obtain ⟨b, off, spot⟩ := a
      simp only at hspot
      subst hspot
      refine ⟨_, l, m, by rw [hll], by omega, hm, fun _ => ⟨b, off, rfl, ?_, fun j u hu => ?_⟩⟩
      · obtain ⟨y, hy⟩ := hcell 0 hpos
        have hk0 : 0 < (encx y).length := by rw [I.len]; exact I.k0
        have h1 := hy 0 _ (List.getElem?_eq_getElem hk0)
        rw [Go.WideShapes.add_plain, Go.WideShapes.add_plain] at h1
        exact lt_of_cell h1
      · have hk0 := I.k0
        have hj : j < l.length * k := by have := (List.getElem?_eq_some_iff.1 hu).1; rwa [cellsL_length I.len] at this
        have hq : j / k < l.length := Nat.div_lt_of_lt_mul (by rwa [Nat.mul_comm] at hj)
        obtain ⟨y, hy⟩ : ∃ y, l[j / k]? = some y := ⟨_, List.getElem?_eq_getElem hq⟩
        have h1 := cellsL_at I.len l (j / k) y (j % k) hy (Nat.mod_lt _ hk0)
        have he : j / k * k + j % k = j := by rw [Nat.mul_comm]; exact Nat.div_add_mod _ _
        rw [he, hu] at h1
        have h2 := hla _ y hy (j % k) u h1.symm
        rw [Go.WideShapes.add_plain, Go.WideShapes.add_plain, Nat.add_assoc, he] at h2
        exact h2
theorem eltSub {α : Type} {encx : α → List Value} {T E k by_ : Nat} {z : Value} (Q : α → Prop) (I : Elt encx T E k by_ z) : Elt (fun e : { e : α // Q e } => encx e.1) T E k by_ z :=
  ⟨I.ht, I.info, I.zs, I.k0, fun x => I.len x.1, fun x => I.one x.1⟩
/-- A slice whose elements have each a property. -/
theorem slice_open_sub {α : Type} {encx : α → List Value} {T E k by_ : Nat} {z : Value} (Q : α → Prop) (I : Elt encx T E k by_ z) (hC : Tryz.prog.cellsOf E = k) {n : Nat} {v : Value} {x : DataW H × List MemPlace} (h : DataW.trod enc Tryz.prog W 0 (fun _ => true) true n T [v] = some x)
    (hel : ∀ (n : Nat) (cs : List Value) (x : DataW H × List MemPlace), DataW.trod enc Tryz.prog W 0 (fun _ => true) true n E cs = some x → ∃ a : α, cs = encx a ∧ Q a) :
    ∃ (A : Option Addr) (xs : List α) (c : Nat), v = .slice A xs.length c ∧ xs.length ≤ c ∧ c ≤ maxLen ∧ RSl encx W A xs ∧ ∀ a ∈ xs, Q a := by
  obtain ⟨A, xs, c, rfl, h1, h2, h3⟩ := slice_open (eltSub Q I) hC h (fun n cs x h => by obtain ⟨a, e, q⟩ := hel n cs x h; exact ⟨⟨a, q⟩, e⟩)
  refine ⟨A, xs.map (·.1), c, by simp, by simpa using h1, h2, fun hp => ?_, fun e he => ?_⟩
  · rw [List.length_map] at hp
    obtain ⟨g, o, e, hg, hc⟩ := h3 hp
    refine ⟨g, o, e, hg, fun j u hu => hc j u ?_⟩
    rw [← hu]
    unfold cellsL
    rw [List.flatMap_map]
  · obtain ⟨y, _, rfl⟩ := List.mem_map.1 he
    exact y.2
end
end Go.Proofs.YtaofcnmajicpcaaGreatDoor
