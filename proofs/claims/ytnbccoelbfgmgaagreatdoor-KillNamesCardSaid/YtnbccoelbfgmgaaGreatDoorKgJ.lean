/- Registers: Names, Copy. -/
import Derived.Test.YtnbccoelbfgmgaaGreatDoorKgI
import Derived.Test.YtnbccoelbfgmgaaGreatDoorLayN
import Derived.Test.YtnbccoelbfgmgaaGreatDoorLayS
namespace Go.Proofs.YtnbccoelbfgmgaaGreatDoor
open Go.RowKit Go.Maps Go.Sort Go.Shelf
set_option linter.unusedVariables false
set_option linter.unusedSimpArgs false
theorem cellsI (xs : List Int) : cellsL encI xs = xs.map encZ := by
  induction xs with
  | nil => rfl
  | cons x xs ih => rw [cellsL_cons, ih]; rfl
/-- The keys alone are read. -/
def anyR : Value → Option (DataW Unit × List MemPlace) := fun _ => some (.nil, [])
theorem IM.owns {α : Type} {enc : α → Value} {w : World} {b : Nat} {m : List (Int × α)} (h : IM w b enc m) (hk : ∀ p ∈ m, -9223372036854775808 ≤ p.1 ∧ p.1 ≤ 9223372036854775807) (hl : m.length ≤ maxLen) :
    ∃ D, w.ownsMap Tryz.prog 3 anyR b m.length D ∧ (intKeys D).Perm (m.map (·.1)) ∧ Maps.size D = m.length := by
  obtain ⟨l, clock, h1, rfl⟩ := h
  have hrd : ∀ x ∈ l, WideElems.rd Tryz.prog 3 anyR (entOf enc x) = some (.int .i64 x.1.1, .nil) := fun x hx => by
    exact WideElems.rd_mk (yv := (.nil, [])) (Maps.keyOf_int_mk Tryz.underlying3 (WalkArith.wf_i64 (hk x.1 (List.mem_map.2 ⟨x, hx, rfl⟩)))) rfl
  have hes : ((l.map (entOf enc)).toArray.toList.map (WideElems.rg Tryz.prog 3 anyR)) = l.map (fun x => ((.int .i64 x.1.1 : Lit), (.nil : DataW Unit))) := by
    show (l.map (entOf enc)).map (WideElems.rg Tryz.prog 3 anyR) = _
    rw [List.map_map]
    generalize Tryz.prog = P at *
    apply List.map_congr_left
    intro x hx
    exact WideElems.rg_of (hrd x hx)
  refine ⟨_, ⟨_, clock, h1.block, ⟨by simpa using hl, ?_, ?_⟩, by simp, rfl⟩, ?_, ?_⟩
  · refine ⟨fun x hx => ?_, ?_, ?_⟩
    · obtain ⟨y, hy, rfl⟩ := List.mem_map.1 hx; exact h1.old y hy
    · simpa [List.map_map, Function.comp_def, entOf] using h1.borns
    · have e : (l.map (entOf enc)).toArray.toList.map (·.key) = (l.map (·.1.1)).map (Value.int .i64) := by simp [List.map_map, Function.comp_def, entOf]
      rw [e]
      exact List.pairwise_map.2 (h1.keys.imp fun hne e => hne (by simpa using e))
  · intro x hx
    obtain ⟨y, hy, rfl⟩ := List.mem_map.1 hx
    exact ⟨_, hrd y hy⟩
  · rw [hes]
    show (List.map _ _).Perm _
    refine ((WideShapes.sorted_perm _).map _).trans ?_
    rw [List.map_map, List.map_map]
    exact List.Perm.refl _
  · rw [hes]
    show (List.foldr DataW.insert [] _).length = _
    rw [length_sorted]; simp

/-- slices.Sort's two contracts. -/
theorem sortsAk (n : Nat) : AnyZI.SortsIn Tryz.prog Tryz.sortedA_ren Fence.wide n :=
  ⟨fun blk off cap ss W hH hblk hsz => callsIn_wide.2 (AnyM.slices_Sort_int Tryz.sortA blk off cap ss W hH hblk hsz),
   fun p cap W => callsIn_wide.2 (AnyM.slices_Sort_int_none Tryz.sortA p cap W)⟩
theorem keys_call (mb : Option Nat) (W : World) : Calls Tryz.prog 60 #[.map mb] W fun e w' =>
    e = .returned (.func (.func 108) #[] #[.pointer (some ⟨W.heap.size, 0, none⟩)]) ∧ w' = W.alloc (.cells #[.map mb] 81) :=
  (callsIn_wide (n := 5)).1 (AnyZI.keys_in Tryz.keysA Fence.wide 5 trivial rfl mb W)
theorem sort_asc {ss ks : List Int} (h : ss.Perm ks) (ha : ks.Pairwise (· < ·)) : ss.mergeSort (fun x y => decide (x ≤ y)) = ks := by
  rw [show (fun x y : Int => decide (x ≤ y)) = leI from rfl, mergeSort_of_perm_i h]
  exact List.mergeSort_of_pairwise (ha.imp fun h => by simp only [leI, decide_eq_true_eq]; omega)
/-- slices.Sorted(maps.Keys(m)), the second half. -/
theorem sorted_call {α : Type} {enc : α → Value} {w : World} {b : Nat} {m : List (Int × α)} (h : IM w b enc m) (hk : ∀ p ∈ m, -9223372036854775808 ≤ p.1 ∧ p.1 ≤ 9223372036854775807) (hl : m.length ≤ 1000000) {ks : List Int} (hks : (m.map (·.1)).Perm ks) (ha : ks.Pairwise (· < ·)) :
    Calls Tryz.prog 59 #[.func (.func 108) #[] #[.pointer (some ⟨w.heap.size, 0, none⟩)]] (w.alloc (.cells #[.map (some b)] 81)) fun e w' =>
      ∃ v, e = .returned v ∧ ROwn encI 3 1 w.heap.size w' v ks ∧ Below w.heap.size w w' := by
  obtain ⟨D, hown, hperm, hsize⟩ := h.owns hk (by unfold maxLen; omega)
  have hbl := hown.lt
  have hseq : SeqGives Fence.wide 2 Tryz.prog 108 #[.pointer (some ⟨w.heap.size, 0, none⟩)] encZ (fun ss => ss.Perm (intKeys D)) (Maps.size D) (w.alloc (.cells #[.map (some b)] 81)) :=
    AnyZI.keys_gives (ρ := Tryz.keysA_ren) { Tryz.keysA with } Fence.wide _ trivial rfl (by omega) w.heap.size b m.length D _ (by simp) (by simp) (by
      obtain ⟨es, clock, hb, Ft, hs, hD⟩ := hown
      exact ⟨es, clock, (Below.heap_alloc _ _ b hbl).trans hb, Ft, hs, hD⟩)
  have cS := AnyZI.sorted_in Tryz.sortedA Fence.wide 5 trivial trivial trivial trivial rfl (by omega) (sortsAk _) (enters_of Tryz.func107 (by kernel_rfl) rfl) 108 #[.pointer (some ⟨w.heap.size, 0, none⟩)] trivial (enters_of Tryz.func108 (by kernel_rfl) rfl) _ _ (by rw [hsize]; unfold maxLen; omega) (by rw [hsize]; omega) _ hseq
  change CallsIn _ _ Tryz.prog 59 _ _ _ at cS
  refine (callsIn_wide.1 cS).mono ?_
  rintro e w' ⟨v, ss, rfl, hS, hrow, hnil, hb⟩
  have hp : ss.Perm ks := (hS.trans hperm).trans hks
  rw [sort_asc hp ha, hp.length_eq] at hrow
  refine ⟨v, rfl, ?_, (below1 w _).trans (hb.mono (by simp))⟩
  have hr : ROwn encI 3 1 (w.alloc (.cells #[.map (some b)] 81)).heap.size w' v ks := by
    unfold ROwn; rw [cellsI]; exact hrow
  exact hr.low (by simp)
section
variable {w w' : World} {b bm N : Nat} {m : List (Int × Reg)}
/-- A slice of numbers is handed back. -/
def IsPost (w : World) (L : List Int) (e : Ending) (w' : World) : Prop := ∃ v, e = .returned v ∧ ROwn encI 3 1 w.heap.size w' v L ∧ Below w.heap.size w w'
set_option maxRecDepth 100000 in
set_option maxHeartbeats 1000000 in
theorem names_any (h : RegsAt w b bm m) (hl : m.length ≤ 1000000) {ks : List Int} (hks : (m.map (·.1)).Perm ks) (ha : ks.Pairwise (· < ·)) : Calls Tryz.prog 26 #[.pointer (some ⟨b, 0, none⟩)] w (IsPost w ks) := by
  have HS := Lib.hid (sorted_call h.im (fun p hp => by have := h.ok p hp; have := this.k0; have := (h.ok p hp).k1; omega) hl hks ha)
  have HN := Lib.hid (none_no h)
  have c0 := h.c0
  have hlt := h.lt
  clear h
  go_enter Tryz.func26, Tryz.ntmps26
  go_wp2_with fail
  refine HN.out.mono ?_
  rintro e w' ⟨rfl, rfl⟩
  go_wp2_with fail
  refine (keys_call (some bm) _).mono ?_
  rintro e w' ⟨rfl, rfl⟩
  go_wp2_with fail
  refine HS.out.mono ?_
  rintro e w1 ⟨v, rfl, hown, hb⟩
  obtain ⟨A', c', rfl, hlc, hcm, hr⟩ := hown.shape eltI
  go_wp2_with fail
  go_ret
  exact ⟨_, rfl, hown, hb⟩
end
end Go.Proofs.YtnbccoelbfgmgaaGreatDoor
