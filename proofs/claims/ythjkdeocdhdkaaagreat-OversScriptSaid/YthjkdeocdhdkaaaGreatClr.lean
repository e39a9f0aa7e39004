/- Slices of the call's own: cut to a prefix; cells set behind it; 'clear'. -/
import Derived.Test.YthjkdeocdhdkaaaGreatOwn
import Derived.Lib.SliceRun
namespace Go.Proofs.YthjkdeocdhdkaaaGreat
open Go.RowKit
set_option linter.unusedVariables false
section
variable {w : World} {B E k : Nat} {A : Option Addr} {xs : List Value}
theorem ownsRow_take {n c : Nat} (h : w.ownsRow B E k (.slice A n c) n xs) (i : Nat) (hi : i ≤ n) : w.ownsRow B E k (.slice A i c) i (xs.take (i * k)) := by
  have hik : i * k ≤ n * k := Nat.mul_le_mul_right k hi
  refine ⟨by rw [List.length_take, h.1]; omega, ?_⟩
  rcases h.2 with ⟨e, h0⟩ | ⟨g, cap, cur, e, hb, hg, hnc, hcm, hsz, htk⟩
  · cases e
    obtain rfl : i = 0 := by omega
    exact .inl ⟨rfl, rfl⟩
  · cases e
    refine .inr ⟨g, c, cur, rfl, hb, hg, by omega, hcm, hsz, ?_⟩
    rw [← htk, List.take_take]
    congr 1; omega
theorem ownsRow_setCells {g n cap : Nat} : ∀ (vs : List Value) (o : Nat) (w : World) (xs : List Value), w.ownsRow B E k (.slice (some ⟨g, 0, none⟩) n cap) n xs →
    ∃ ys, (w.setCells g o vs).ownsRow B E k (.slice (some ⟨g, 0, none⟩) n cap) n ys ∧ ys.take o = xs.take o ∧ Only (· = g) w (w.setCells g o vs)
  | [], o, w, xs, h => ⟨xs, h, rfl, Only.refl _ _⟩
  | u :: vs, o, w, xs, h => by
    obtain ⟨h1, h2⟩ := World.ownsRow.stored h o u
    obtain ⟨ys, h3, h4, h5⟩ := ownsRow_setCells vs (o + 1) _ _ h1
    refine ⟨ys, h3, ?_, (Only.of_grown (S := (· = g)) h2 rfl).trans h5⟩
    have := congrArg (List.take o) h4
    rw [List.take_take, List.take_take, Nat.min_eq_left (by omega)] at this
    rw [this, List.take_set_of_le (by omega)]
end
section
variable {α : Type} {enc : α → List Value} {T E k by_ B : Nat} {z : Value} {w : World} {zs : List α}
theorem ROwn.cut (I : Elt enc T E k by_ z) {A : Option Addr} {n c : Nat} (h : ROwn enc E k B w (.slice A n c) zs) (hn : n = zs.length) (i : Nat) (hi : i ≤ n) : ROwn enc E k B w (.slice A i c) (zs.take i) := by
  subst hn
  have := ownsRow_take h i hi
  unfold ROwn
  rw [List.length_take, Nat.min_eq_left hi, cellsL_take I.len zs i hi]
  exact this
/-- 'clear(s[i:])' of a slice of the call's own: the run, and what is left in front. -/
theorem clear_own (I : Elt enc T E k by_ z) (hv : ∀ w, (zeroValue E).run Tryz.prog w = .ok z w) (ho : ∀ u ∈ z.cells.toList, u.oneCell' = true) {g cap : Nat} (h : ROwn enc E k B w (.slice (some ⟨g, 0, none⟩) zs.length cap) zs) {i : Nat} (hi : i < zs.length) (c : Nat) :
    ∃ w', (∀ ty, (Builtin.clear_ #[T] ty #[.slice (some ⟨g, i * k, none⟩) (zs.length - i) c]).run Tryz.prog w = .ok (.tuple #[]) w') ∧ ROwn enc E k B w' (.slice (some ⟨g, 0, none⟩) i cap) (zs.take i) ∧ Only (· = g) w w' := by
  obtain ⟨g', cap', e, _, _, _, _, hfz, hcs⟩ := h.lies I (by omega)
  cases e
  have hlen : ∀ m, (Builtin.zeroCells z.cells m).toList.length = m * k := fun m => by
    simp [Builtin.zeroCells, I.zs, Nat.mul_comm]
  have hone : ∀ m, ∀ u ∈ (Builtin.zeroCells z.cells m).toList, u.oneCell' = true := fun m u hu => by
    apply ho
    simp only [Builtin.zeroCells, Array.mem_toList_iff, Array.mem_map] at hu ⊢
    obtain ⟨q, _, rfl⟩ := hu
    have h0 : 0 < z.cells.size := by rw [I.zs]; exact I.k0
    rw [getElem!_pos z.cells _ (Nat.mod_lt _ h0)]
    exact Array.getElem_mem _
  have hmul : i * k + (zs.length - i) * k = zs.length * k := by rw [← Nat.add_mul]; congr 1; omega
  have hf : ∀ j, j < (zs.length - i) * k → w.frozen? ⟨g, i * k + j, none⟩ = false := fun j hj => hfz _ (by omega)
  have hc : ∀ j, j < (zs.length - i) * k → (w.cell? ⟨g, i * k + j, none⟩).isSome = true := fun j hj => by
    have hk0 := I.k0
    have hjk : i * k + j < zs.length * k := by omega
    have hq : (i * k + j) / k < zs.length := Nat.div_lt_of_lt_mul (by rw [Nat.mul_comm k]; exact hjk)
    have hr := Nat.mod_lt (i * k + j) hk0
    have hm : (i * k + j) / k * k + (i * k + j) % k = i * k + j := by rw [Nat.mul_comm]; exact Nat.div_add_mod _ _
    have hx : zs[(i * k + j) / k]? = some zs[(i * k + j) / k] := List.getElem?_eq_getElem hq
    have hu : (enc zs[(i * k + j) / k])[(i * k + j) % k]? = some ((enc zs[(i * k + j) / k])[(i * k + j) % k]'(by rw [I.len]; exact hr)) := List.getElem?_eq_getElem _
    have := hcs _ _ _ _ hx hu
    rw [hm] at this
    rw [this]; rfl
  have hst := run_storeCells_cells (P := Tryz.prog) g (i * k) (Builtin.zeroCells z.cells (zs.length - i)).toList 0 w (by rw [hlen]; simpa using hc) (by rw [hlen]; simpa using hf) (hone _)
  simp only [Nat.add_zero] at hst
  obtain ⟨ys, h1, h2, h3⟩ := ownsRow_setCells (Builtin.zeroCells z.cells (zs.length - i)).toList (i * k) w _ h
  refine ⟨_, fun ty => ?_, ?_, h3⟩
  · obtain ⟨m, hm⟩ : ∃ m, zs.length - i = m + 1 := ⟨zs.length - i - 1, by omega⟩
    rw [hm] at hst ⊢
    simp [Builtin.clear_, run_underlying I.ht, hv, hst]
  · have h4 := ownsRow_take h1 i (by omega)
    unfold ROwn
    rw [List.length_take, Nat.min_eq_left (by omega), cellsL_take I.len zs i (by omega), ← h2]
    exact h4
end
end Go.Proofs.YthjkdeocdhdkaaaGreat
