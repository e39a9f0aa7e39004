/- Overlays: numbers. -/
import Derived.Test.YthjkdeocdhdkaaaGreatOvQ
namespace Go.Proofs.YthjkdeocdhdkaaaGreat
open Go.RowKit
set_option linter.unusedVariables false
set_option linter.unusedSimpArgs false
abbrev encI (z : Int) : List Value := [.int .i64 z]
theorem eltI : Elt encI 32 3 1 8 (.int .i64 0) := ⟨Tryz.underlying32, by kernel_rfl, rfl, by omega, fun _ => rfl, fun x u hu => by simp at hu; subst hu; rfl⟩
section
variable {w w' : World} {x : OverE} {L L' M : List OverE} {b : Nat} {pr ev nx : Int} {v v' : Value} {A : Option Addr}
/-- A slice of numbers is handed back. -/
def IsPost (w : World) (l : List Int) (e : Ending) (w' : World) : Prop := ∃ v, e = .returned v ∧ ROwn encI 3 1 w.heap.size w' v l ∧ Below w.heap.size w w'
set_option maxRecDepth 100000 in
set_option maxHeartbeats 1000000 in
theorem numbers_any (h : RSl encT w A L) (hin : ∀ x ∈ L, OverIn w x) (c : Nat) (hl : L.length ≤ 1000000) : Calls Tryz.prog 46 #[.slice A L.length c] w (IsPost w (L.map OverE.id)) := by
  have HAs := Lib.hid h
  have HIN := Lib.hid hin
  clear h hin
  go_enter Tryz.func46, Tryz.ntmps46
  go_wp2_with fail
  go_loopw [3, 8] (fun vo vi wr => ∃ k : Nat, k ≤ L.length ∧ vi = .int .i64 k ∧ ROwn encI 3 1 w.heap.size wr vo ((L.map OverE.id).take k) ∧ Below w.heap.size w wr) (fun _ vi _ => L.length - (intOf vi).toNat)
  case atStart => exact ⟨0, by omega, rfl, ROwn.nil _ _, Below.refl _ _⟩
  case round =>
    obtain ⟨k, hk, rfl, hown, hbel⟩ := hrel
    by_cases hlt : k < L.length
    · obtain ⟨x, hy⟩ : ∃ y, L[k]? = some y := ⟨_, List.getElem?_eq_getElem (by omega)⟩
      obtain ⟨g, o, hAe, hg, hc⟩ := (HAs.out.up hbel).at_ eltT hy
      have e0 := hc 0 _ rfl
      simp only [Nat.mul_one, Nat.add_zero] at e0
      have i0 := ((HIN.out x (List.mem_of_getElem? hy)).up hbel).cell 0 _ rfl
      have hlt' : (k : Int) < L.length := by omega
      obtain ⟨v', w', happ, hown', hb', _, _⟩ := append_elem eltI hown hbel.size x.id (by simp; omega) (by omega)
      obtain ⟨A1, c1, hv1, _, _, _⟩ := hown.shape eltI
      have hkl : ((L.map OverE.id).take k).length = k := by simp; omega
      rw [hkl] at hv1
      subst hv1
      obtain ⟨A2, c2, hv2, _, _, _⟩ := hown'.shape eltI
      have hk2 : ((L.map OverE.id).take k ++ [x.id]).length = k + 1 := by simp; omega
      rw [hk2] at hv2
      have hsn : (L.map OverE.id).take k ++ [x.id] = (L.map OverE.id).take (k + 1) := by
        rw [List.take_add_one, List.getElem?_map, hy]; rfl
      rw [hsn] at hown'
      have HO := Lib.hid hown'
      have HB := Lib.hid (hbel.trans hb')
      have HP := Lib.hid happ
      subst hAe
      clear hc hy hown hown' hb' happ hbel hsn hkl hk2
      subst hv2
      go_wp2_with (at_builtin; refine wpList_app_run rfl _ _ _ rfl rfl rfl HP.out ?_)
      go_roundw
      case rel => exact ⟨k + 1, by omega, by go_num, HO.out, HB.out⟩
      case measure => simp [intOf]; omega
    · obtain rfl : k = L.length := by omega
      obtain ⟨A1, c1, hv1, _, _, _⟩ := hown.shape eltI
      generalize (List.take L.length (L.map OverE.id)).length = L1 at hv1
      subst hv1
      have HO := Lib.hid hown
      clear hown
      go_wp2_with fail
      go_ret
      exact ⟨_, rfl, by have := HO.out; rwa [List.take_of_length_le (by simp)] at this, hbel⟩
end
end Go.Proofs.YthjkdeocdhdkaaaGreat
