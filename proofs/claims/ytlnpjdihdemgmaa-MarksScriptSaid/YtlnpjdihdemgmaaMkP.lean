/- marks.All: the marks, ascending by number. -/
import Derived.Test.YtlnpjdihdemgmaaMkH
import Derived.Test.YtlnpjdihdemgmaaSeg
import Derived.Test.YtlnpjdihdemgmaaLay
namespace Go.Proofs.Ytlnpjdihdemgmaa
open Go.RowKit Go.Maps Go.Sort Go.Shelf
set_option linter.unusedVariables false

abbrev encI (z : Int) : List Value := [.int .i64 z]
theorem cellsI (xs : List Int) : cellsL encI xs = xs.map encZ := by
  induction xs with
  | nil => rfl
  | cons x xs ih => rw [cellsL_cons, ih]; rfl
theorem eltI : Elt encI 30 3 1 8 (.int .i64 0) := ⟨Try.underlying30, by kernel_rfl, rfl, by omega, fun _ => rfl, fun x u hu => by simp at hu; subst hu; rfl⟩
/-- A mark as api.Mark's cells. -/
abbrev encK (p : Int × Mk) : List Value := [.int .i64 p.1, .int .i64 p.2.1, .bool p.2.2]
theorem eltK : Elt encK 43 47 3 24 (.agg #[.int .i64 0, .int .i64 0, .bool false]) :=
  ⟨Try.underlying43, by kernel_rfl, rfl, by omega, fun _ => rfl, fun x u hu => by simp at hu; rcases hu with rfl | rfl | rfl <;> rfl⟩

/-- The keys alone are read. -/
def anyR : Value → Option (DataW Unit × List MemPlace) := fun _ => some (.nil, [])
theorem IM.owns {α : Type} {enc : α → Value} {w : World} {b : Nat} {m : List (Int × α)} (h : IM w b enc m) (hk : ∀ p ∈ m, -9223372036854775808 ≤ p.1 ∧ p.1 ≤ 9223372036854775807) (hl : m.length ≤ maxLen) :
    ∃ D, w.ownsMap Try.prog 3 anyR b m.length D ∧ (intKeys D).Perm (m.map (·.1)) ∧ Maps.size D = m.length := by
  obtain ⟨l, clock, h1, rfl⟩ := h
  have hrd : ∀ x ∈ l, WideElems.rd Try.prog 3 anyR (entOf enc x) = some (.int .i64 x.1.1, .nil) := fun x hx => by
    exact WideElems.rd_mk (yv := (.nil, [])) (Maps.keyOf_int_mk Try.underlying3 (WalkArith.wf_i64 (hk x.1 (List.mem_map.2 ⟨x, hx, rfl⟩)))) rfl
  have hes : ((l.map (entOf enc)).toArray.toList.map (WideElems.rg Try.prog 3 anyR)) = l.map (fun x => ((.int .i64 x.1.1 : Lit), (.nil : DataW Unit))) := by
    show (l.map (entOf enc)).map (WideElems.rg Try.prog 3 anyR) = _
    rw [List.map_map]
    generalize Try.prog = P at *
    apply List.map_congr_left
    intro x hx
    exact WideElems.rg_of (hrd x hx)
  refine ⟨_, ⟨_, clock, h1.block, ⟨by simpa using hl, ?_, ?_⟩, by simp, rfl⟩, ?_, ?_⟩
  · refine ⟨fun x hx => ?_, ?_, ?_⟩
    · obtain ⟨y, hy, rfl⟩ := List.mem_map.1 hx; exact h1.old y hy
    · simpa [List.map_map, Function.comp_def, entOf] using h1.borns
    · have e : (l.map (entOf enc)).toArray.toList.map (·.key) = (l.map (·.1.1)).map (Value.int .i64) := by simp [List.map_map, Function.comp_def, entOf]
      rw [e]
      exact List.pairwise_map.2 (h1.keys.imp fun hne e => hne (by simpa using e))
  · intro x hx
    obtain ⟨y, hy, rfl⟩ := List.mem_map.1 hx
    exact ⟨_, hrd y hy⟩
  · rw [hes]
    show (List.map _ _).Perm _
    refine ((WideShapes.sorted_perm _).map _).trans ?_
    rw [List.map_map, List.map_map]
    exact List.Perm.refl _
  · rw [hes]
    show (List.foldr DataW.insert [] _).length = _
    rw [length_sorted]; simp

/-- slices.Sort's two contracts. -/
theorem sortsA (n : Nat) : AnyZI.SortsIn Try.prog Try.sortedA_ren Fence.wide n :=
  ⟨fun blk off cap ss W hH hblk hsz => callsIn_wide.2 (AnyM.slices_Sort_int Try.sortA blk off cap ss W hH hblk hsz),
   fun p cap W => callsIn_wide.2 (AnyM.slices_Sort_int_none Try.sortA p cap W)⟩
theorem keys_call (mb : Option Nat) (W : World) : Calls Try.prog 42 #[.map mb] W fun e w' =>
    e = .returned (.func (.func 57) #[] #[.pointer (some ⟨W.heap.size, 0, none⟩)]) ∧ w' = W.alloc (.cells #[.map mb] 60) :=
  (callsIn_wide (n := 5)).1 (AnyZI.keys_in Try.keysA Fence.wide 5 trivial rfl mb W)
theorem sort_asc {ss ks : List Int} (h : ss.Perm ks) (ha : ks.Pairwise (· < ·)) : ss.mergeSort (fun x y => decide (x ≤ y)) = ks := by
  rw [show (fun x y : Int => decide (x ≤ y)) = leI from rfl, mergeSort_of_perm_i h]
  exact List.mergeSort_of_pairwise (ha.imp fun h => by simp only [leI, decide_eq_true_eq]; omega)
/-- slices.Sorted(maps.Keys(m)), the second half. -/
theorem sorted_call {α : Type} {enc : α → Value} {w : World} {b : Nat} {m : List (Int × α)} (h : IM w b enc m) (hk : ∀ p ∈ m, -9223372036854775808 ≤ p.1 ∧ p.1 ≤ 9223372036854775807) (hl : m.length ≤ 1000000) (ha : (m.map (·.1)).Pairwise (· < ·)) :
    Calls Try.prog 41 #[.func (.func 57) #[] #[.pointer (some ⟨w.heap.size, 0, none⟩)]] (w.alloc (.cells #[.map (some b)] 60)) fun e w' =>
      ∃ v, e = .returned v ∧ ROwn encI 3 1 w.heap.size w' v (m.map (·.1)) ∧ Below w.heap.size w w' := by
  obtain ⟨D, hown, hperm, hsize⟩ := h.owns hk (by unfold maxLen; omega)
  have hbl := hown.lt
  have hseq : SeqGives Fence.wide 2 Try.prog 57 #[.pointer (some ⟨w.heap.size, 0, none⟩)] encZ (fun ss => ss.Perm (intKeys D)) (Maps.size D) (w.alloc (.cells #[.map (some b)] 60)) :=
    AnyZI.keys_gives (ρ := Try.keysA_ren) { Try.keysA with } Fence.wide _ trivial rfl (by omega) w.heap.size b m.length D _ (by simp) (by simp) (by
      obtain ⟨es, clock, hb, Ft, hs, hD⟩ := hown
      exact ⟨es, clock, (Below.heap_alloc _ _ b hbl).trans hb, Ft, hs, hD⟩)
  have cS := AnyZI.sorted_in Try.sortedA Fence.wide 5 trivial trivial trivial trivial rfl (by omega) (sortsA _) (enters_of Try.func56 (by kernel_rfl) rfl) 57 #[.pointer (some ⟨w.heap.size, 0, none⟩)] trivial (enters_of Try.func57 (by kernel_rfl) rfl) _ _ (by rw [hsize]; unfold maxLen; omega) (by rw [hsize]; omega) _ hseq
  change CallsIn _ _ Try.prog 41 _ _ _ at cS
  refine (callsIn_wide.1 cS).mono ?_
  rintro e w' ⟨v, ss, rfl, hS, hrow, hnil, hb⟩
  have hp : ss.Perm (m.map (·.1)) := hS.trans hperm
  rw [sort_asc hp ha, hp.length_eq] at hrow
  refine ⟨v, rfl, ?_, (below1 w _).trans (hb.mono (by simp))⟩
  have hr : ROwn encI 3 1 (w.alloc (.cells #[.map (some b)] 60)).heap.size w' v (m.map (·.1)) := by
    unfold ROwn; rw [cellsI]; exact hrow
  exact hr.low (by simp)
end Go.Proofs.Ytlnpjdihdemgmaa
