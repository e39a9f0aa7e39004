/- Overlays: copied, All. -/
import Derived.Test.YthjkdeocdhdkaaaGreatOvJ
namespace Go.Proofs.YthjkdeocdhdkaaaGreat
open Go.RowKit
set_option linter.unusedVariables false
set_option linter.unusedSimpArgs false
theorem eltO : Elt encO 39 69 6 56 (.agg #[.int .i64 0, .int .i64 0, .int .i64 0, .bool false, .bool false, .slice none 0 0]) :=
  ⟨Tryz.underlying39, by kernel_rfl, rfl, by omega, fun _ => rfl, fun x u hu => by simp at hu; rcases hu with rfl | rfl | rfl | rfl | rfl | rfl <;> rfl⟩
section
variable {w w' : World} {x : OverE} {L L' : List OverE} {b : Nat} {pr ev nx : Int} {v v' : Value} {A : Option Addr} {ps : List PropE}
theorem set_below {n : Nat} {a w : World} (h : Below n a w) (b i : Nat) (u : Value) (hb : n ≤ b) : Below n a (w.setCell ⟨b, i, none⟩ u) := h.setCell (p := ⟨b, i, none⟩) hb u
def CpO (w : World) (x : OverE) (e : Ending) (w' : World) : Prop := ∃ A c, e = .returned (.agg #[.int .i64 x.id, .int .i64 x.f, .int .i64 x.t, .bool x.fr, .bool x.re, .slice A x.ps.length c]) ∧ ROwn encP 71 3 w.heap.size w' (.slice A x.ps.length c) x.ps ∧ Below w.heap.size w w'
set_option maxRecDepth 100000 in
set_option maxHeartbeats 1000000 in
theorem copied_any (hx : OverIn w x) (hl : x.ps.length ≤ 1000000) : Calls Tryz.prog 45 #[.pointer (some ⟨x.g, 0, none⟩)] w (CpO w x) := by
  obtain ⟨id, f, t, fr, re, A, c, ps, g⟩ := x
  have hlt : g < w.heap.size := hx.lt (foot_g _)
  have e0 := hx.cell 0 _ rfl
  have e1 := hx.cell 1 _ rfl
  have e2 := hx.cell 2 _ rfl
  have e3 := hx.cell 3 _ rfl
  have e4 := hx.cell 4 _ rfl
  have e5 := hx.cell 5 _ rfl
  dsimp only at e0 e1 e2 e3 e4 e5 hl
  obtain ⟨A', c', hv, _, _, hr⟩ := hx.own.shape eltP
  have hA : RSl encP w A ps := by
    have : A = A' := by unfold OverE.pv at hv; cases hv; rfl
    rw [this]; exact hr
  have HC := Lib.hid (fun (w1 : World) (hb : Below w.heap.size w w1) => cloneP (hA.up hb) c hl)
  clear hx hv hr hA
  go_enter Tryz.func45, Tryz.ntmps45
  go_wp2_with fail
  refine (HC.out _ (up2 (below1 _ _) (below1 _ _))).mono ?_
  rintro e w1 ⟨v, rfl, hown, hb⟩
  obtain ⟨A1, c1, rfl, _, _, hr1⟩ := hown.shape eltP
  have hz := hb.size
  simp at hz
  have k0 := hb.cell (p := ⟨w.heap.size, 0, none⟩) (by simp; omega)
  have k1 := hb.cell (p := ⟨w.heap.size, 1, none⟩) (by simp; omega)
  have k2 := hb.cell (p := ⟨w.heap.size, 2, none⟩) (by simp; omega)
  have k3 := hb.cell (p := ⟨w.heap.size, 3, none⟩) (by simp; omega)
  have k4 := hb.cell (p := ⟨w.heap.size, 4, none⟩) (by simp; omega)
  have k5 := hb.cell (p := ⟨w.heap.size, 5, none⟩) (by simp; omega)
  have kf := fun o => hb.frozen (p := ⟨w.heap.size, o, none⟩) (by simp; omega)
  have m0 := hb.cell (p := ⟨w.heap.size + 1, 0, none⟩) (by simp)
  have m1 := hb.cell (p := ⟨w.heap.size + 1, 1, none⟩) (by simp)
  have m2 := hb.cell (p := ⟨w.heap.size + 1, 2, none⟩) (by simp)
  have m3 := hb.cell (p := ⟨w.heap.size + 1, 3, none⟩) (by simp)
  have m4 := hb.cell (p := ⟨w.heap.size + 1, 4, none⟩) (by simp)
  have m5 := hb.cell (p := ⟨w.heap.size + 1, 5, none⟩) (by simp)
  have mf := fun o => hb.frozen (p := ⟨w.heap.size + 1, o, none⟩) (by simp)
  simp at k0 k1 k2 k3 k4 k5 kf m0 m1 m2 m3 m4 m5 mf
  have HB := Lib.hid (up2 (up2 (below1 _ _) (below1 _ _)) hb)
  have HO := Lib.hid hown
  clear hb hown hr1 e0 e1 e2 e3 e4 e5
  go_wp2_with fail
  refine bodyPost_ret (v := .agg #[.int .i64 id, .int .i64 f, .int .i64 t, .bool fr, .bool re, .slice A1 ps.length c1]) (by simp [results, Tryz.f45, go_sem, k0, k1, k2, k3, k4, k5]) rfl ⟨A1, c1, rfl, ?_, ?_⟩
  · have hne : ∀ q, (Value.slice A1 ps.length c1).ownBlock = some q → q ≠ w.heap.size ∧ q ≠ w.heap.size + 1 := fun q e => by have := HO.out.base e; simp at this; omega
    refine (HO.out.kept fun q hq => ?_).low (by simp; omega)
    rw [Below.heap_setCell _ _ _ _ (hne q hq).1, Below.heap_setCell _ _ _ _ (hne q hq).1, Below.heap_setCell _ _ _ _ (hne q hq).1, Below.heap_setCell _ _ _ _ (hne q hq).1, Below.heap_setCell _ _ _ _ (hne q hq).1, Below.heap_setCell _ _ _ _ (hne q hq).1, Below.heap_setCell _ _ _ _ (hne q hq).2]
  · repeat (refine set_below ?_ _ _ _ (by omega))
    exact HB.out
end
end Go.Proofs.YthjkdeocdhdkaaaGreat
