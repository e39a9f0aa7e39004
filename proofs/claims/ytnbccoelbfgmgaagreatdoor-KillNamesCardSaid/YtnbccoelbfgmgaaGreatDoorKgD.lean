/- Registers: kill.plain at rows. -/
import Derived.Test.YtnbccoelbfgmgaaGreatDoorKgC
namespace Go.Proofs.YtnbccoelbfgmgaaGreatDoor
open Go.RowKit
set_option linter.unusedVariables false
set_option linter.unusedSimpArgs false
section
variable {w w' : World} {N : Nat}
set_option maxRecDepth 100000 in
set_option maxHeartbeats 1000000 in
theorem kplain_rows1 (r : Reg) (w : World) (hk : r.kind = 4) (h : RSl encStr w r.A r.rows) (hl : r.rows.length ≤ 1000000) (hs : ∀ s ∈ r.rows, s.size ≤ 1000000000) (hT : Tabs N w) (hv : r.rows.any (fun s => !vld s) = false) :
    Calls Tryz.prog 51 #[regV r] w (PlPost w (plainC r.con) (plainE r.con)) := by
  obtain ⟨k, n, id, t, A, c, rows⟩ := r
  obtain rfl : k = 4 := hk
  have e1 : plainE (Reg.con ⟨4, n, id, t, A, c, rows⟩) = 0 := plE_rows1 hv
  have e2 : plainC (Reg.con ⟨4, n, id, t, A, c, rows⟩) = ⟨4, 0, 0, ⟨#[]⟩, rows⟩ := by unfold plainC; rw [if_pos e1]; rfl
  rw [e1, e2]
  replace h : RSl encStr w A rows := h
  replace hl : rows.length ≤ 1000000 := hl
  have HC := Lib.hid (fun (w1 : World) (hb : Below w.heap.size w w1) => clone_any (h.up hb) c hl)
  have HI := Lib.hid (fun (w1 : World) (h1 : RSl encStr w1 A rows) (hT : Tabs N w1) => contains_any h1 c hl hs hT)
  have HT := Lib.hid hT
  have HV := Lib.hid hv
  have HH := Lib.hid h
  clear e1 e2 hs hT hv h
  go_enter Tryz.func51, Tryz.ntmps51
  go_wp2_with fail
  refine (HC.out _ (up2 (up2 (below1 _ _) (below1 _ _)) (below1 _ _))).mono ?_
  rintro e w1 ⟨v, rfl, hown, hb⟩
  obtain ⟨A', c', rfl, hlc, hcm, hr⟩ := hown.shape eltStr
  obtain ⟨hc, hf⟩ := bcell hb
  have HB0 := up2 (up2 (up2 (below1 _ _) (below1 _ _)) (below1 _ _)) hb
  have HO := Lib.hid hown
  have HR := Lib.hid hr
  have hz := hb.size
  have hb0 := HB0
  have HB := Lib.hid HB0
  have HBB := Lib.hid hb
  simp at hz
  clear hown hr hb HB0 hb0
  go_wp2_with fail
  have HBS := Lib.hid (set_below HB.out (w.heap.size + 1 + 1) 4 (.slice A' rows.length c') (by omega))
  refine (HI.out _ (HH.out.up HBS.out) (HT.out.up HBS.out)).mono ?_
  rintro e w2 ⟨rfl, hb2⟩
  obtain ⟨hc2, hf2⟩ := bcell hb2
  have HB2 := Lib.hid (up2 HBS.out hb2)
  have HB3 := Lib.hid hb2
  clear hb2
  rw [HV.out]
  simp only [World.size_setCell] at hc2 hf2
  have hz2 : w.heap.size + 1 + 1 < w1.heap.size := by omega
  have hz1 : w.heap.size + 1 < w1.heap.size := by omega
  go_wp2_with fail
  refine bodyPost_ret (v := .tuple #[.agg #[.int .i64 4, .int .i64 0, .int .i64 0, .string ⟨#[]⟩, .slice A' rows.length c'], .int .i64 0]) (by simp [results, Tryz.f51, go_sem, hc2, hf2, hc, hf, hz1, hz2]) rfl ⟨⟨4, 0, 0, ⟨#[]⟩, A', c', rows⟩, rfl, rfl, ⟨?_, hlc, hcm⟩, ?_, ?_⟩
  · have hne : ∀ n, n < w.heap.size + 3 → 0 < rows.length → ∀ g o, A' = some ⟨g, o, none⟩ → g ≠ n := fun n hn hp g o e => by have h1 := HO.out.base (g := g) (by rw [e]; rfl); simp at h1; omega
    have h1 := (RSl.set HR.out (w.heap.size + 1 + 1) 4 (.slice A' rows.length c') (hne _ (by omega))).up HB3.out
    exact ((((h1.set (w.heap.size + 1) 0 _ (hne _ (by omega))).set (w.heap.size + 1) 1 _ (hne _ (by omega))).set (w.heap.size + 1) 2 _ (hne _ (by omega))).set (w.heap.size + 1) 3 _ (hne _ (by omega))).set (w.heap.size + 1) 4 _ (hne _ (by omega))
  · intro hp g o e
    replace e : A' = some ⟨g, o, .none⟩ := e
    have h1 := HO.out.base (g := g) (by rw [e]; rfl)
    simp at h1
    show w.heap.size ≤ g
    omega
  · repeat (refine set_below ?_ _ _ _ (by omega))
    exact HB2.out
set_option maxRecDepth 100000 in
set_option maxHeartbeats 1000000 in
theorem kplain_rows0 (r : Reg) (w : World) (hk : r.kind = 4) (h : RSl encStr w r.A r.rows) (hl : r.rows.length ≤ 1000000) (hs : ∀ s ∈ r.rows, s.size ≤ 1000000000) (hT : Tabs N w) (hv : r.rows.any (fun s => !vld s) = true) :
    Calls Tryz.prog 51 #[regV r] w (PlPost w (plainC r.con) (plainE r.con)) := by
  obtain ⟨k, n, id, t, A, c, rows⟩ := r
  obtain rfl : k = 4 := hk
  have e1 : plainE (Reg.con ⟨4, n, id, t, A, c, rows⟩) = 5 := plE_rows0 hv
  have e2 : plainC (Reg.con ⟨4, n, id, t, A, c, rows⟩) = zeroCn := by unfold plainC; rw [e1]; rfl
  rw [e1, e2]
  replace h : RSl encStr w A rows := h
  replace hl : rows.length ≤ 1000000 := hl
  have HC := Lib.hid (fun (w1 : World) (hb : Below w.heap.size w w1) => clone_any (h.up hb) c hl)
  have HI := Lib.hid (fun (w1 : World) (h1 : RSl encStr w1 A rows) (hT : Tabs N w1) => contains_any h1 c hl hs hT)
  have HT := Lib.hid hT
  have HV := Lib.hid hv
  have HH := Lib.hid h
  clear e1 e2 hs hT hv h
  go_enter Tryz.func51, Tryz.ntmps51
  go_wp2_with fail
  refine (HC.out _ (up2 (up2 (below1 _ _) (below1 _ _)) (below1 _ _))).mono ?_
  rintro e w1 ⟨v, rfl, hown, hb⟩
  obtain ⟨A', c', rfl, hlc, hcm, hr⟩ := hown.shape eltStr
  obtain ⟨hc, hf⟩ := bcell hb
  have HB0 := up2 (up2 (up2 (below1 _ _) (below1 _ _)) (below1 _ _)) hb
  have HO := Lib.hid hown
  have HR := Lib.hid hr
  have hz := hb.size
  have hb0 := HB0
  have HB := Lib.hid HB0
  have HBB := Lib.hid hb
  simp at hz
  clear hown hr hb HB0 hb0
  go_wp2_with fail
  have HBS := Lib.hid (set_below HB.out (w.heap.size + 1 + 1) 4 (.slice A' rows.length c') (by omega))
  refine (HI.out _ (HH.out.up HBS.out) (HT.out.up HBS.out)).mono ?_
  rintro e w2 ⟨rfl, hb2⟩
  obtain ⟨hc2, hf2⟩ := bcell hb2
  have HB2 := Lib.hid (up2 HBS.out hb2)
  have HB3 := Lib.hid hb2
  clear hb2
  rw [HV.out]
  simp only [World.size_setCell] at hc2 hf2
  have hz2 : w.heap.size + 1 + 1 < w1.heap.size := by omega
  have hz1 : w.heap.size + 1 < w1.heap.size := by omega
  go_wp2_with fail
  refine bodyPost_ret (v := .tuple #[.agg #[.int .i64 0, .int .i64 0, .int .i64 0, .string ⟨#[]⟩, .slice none 0 0], .int .i64 5]) (by simp [results, Tryz.f51, go_sem, hc2, hf2, hc, hf, hz1, hz2]) rfl (pl_none _ _ _ _ rfl ?_)
  · repeat (refine set_below ?_ _ _ _ (by omega))
    exact HB2.out
end
end Go.Proofs.YtnbccoelbfgmgaaGreatDoor
