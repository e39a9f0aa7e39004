/- package syntax: the table of Lisp is made, of new blocks. -/
import Derived.Test.YtphdkcdkhklicaaGreatDoorZ18
import Derived.Laws.EntriesVeiled
namespace Go.Proofs.YtphdkcdkhklicaaGreatDoor
open Go.RowKit
set_option linter.unusedVariables false
set_option linter.unusedSimpArgs false
section
variable {w w' : World} {tb bs ms mo : Nat}
set_option maxRecDepth 100000 in
set_option maxHeartbeats 4000000 in
theorem synLispN (w : World) : Calls Tryz.prog 11 #[] w fun e w' => ∃ tb bs ms mo, e = .returned (pAt tb) ∧ Below w.heap.size w w' ∧ LspT w' tb bs ms mo ∧ w.heap.size ≤ tb ∧ w.heap.size ≤ bs ∧ w.heap.size ≤ ms ∧ w.heap.size ≤ mo := by
  have hmm := @run_makeMap Tryz.prog
  have HM := Lib.hid hmm
  clear hmm
  go_enter Tryz.func11, Tryz.ntmps11
  go_wp2_with fail
  refine (synNew w).mono ?_
  rintro e w1 ⟨rfl, hb1, hs1, hk1, him1⟩
  have hs1' : w.heap.size + 2 ≤ w1.heap.size := Nat.le_of_eq hs1.symm
  clear hs1
  have im0 : IM (w1.alloc (.map #[] 0)) w1.heap.size encE [] := ⟨[], 0, ⟨(MapKept.heap_alloc w1 _).1, List.nodup_nil, List.nodup_nil, fun x hx => by cases hx⟩, rfl⟩
  have zz0 : (w1.alloc (.map #[] 0)).heap.size = w1.heap.size + 1 := by simp
  have hal := below1 w1 (.map #[] 0)
  have K0 := hk1.up hal
  have O0 := him1.kept (hal.block _ him1.lt)
  have b0 : Below w.heap.size w (w1.alloc (.map #[] 0)) := up2 hb1 hal
  obtain ⟨W0, hW0⟩ : ∃ W0, w1.alloc (.map #[] 0) = W0 := ⟨_, rfl⟩
  have HW := Lib.hid hW0
  have hmk := fun t => HM.out t w1
  simp only [hW0] at hmk
  rw [hW0] at im0 zz0 K0 O0 b0
  clear hW0 hal him1 hk1 hb1
  obtain ⟨W1, r0, im1, g0, y0⟩ := im0.store (P := Tryz.prog) mapTE keyTE 40 (4, 41)
  have b1 := b0.grown g0 b0.size (fun k hk => by have hk := Option.some.inj hk; omega)
  have zz1 : W1.heap.size = w1.heap.size + 1 := y0.trans zz0
  have K1 := K0.kept (g0.block _ (by omega) (by intro e; have e := Option.some.inj e; omega))
  have O1 := O0.kept (g0.block _ (by omega) (by intro e; have e := Option.some.inj e; omega))
  clear im0 g0 y0 b0 zz0 K0 O0
  obtain ⟨W2, r1, im2, g1, y1⟩ := im1.store (P := Tryz.prog) mapTE keyTE 41 (5, 40)
  have b2 := b1.grown g1 b1.size (fun k hk => by have hk := Option.some.inj hk; omega)
  have zz2 : W2.heap.size = w1.heap.size + 1 := y1.trans zz1
  have K2 := K1.kept (g1.block _ (by omega) (by intro e; have e := Option.some.inj e; omega))
  have O2 := O1.kept (g1.block _ (by omega) (by intro e; have e := Option.some.inj e; omega))
  clear im1 g1 y1 b1 zz1 K1 O1
  obtain ⟨W3, r2, im3, g2, y2⟩ := im2.store (P := Tryz.prog) mapTE keyTE 91 (4, 93)
  have b3 := b2.grown g2 b2.size (fun k hk => by have hk := Option.some.inj hk; omega)
  have zz3 : W3.heap.size = w1.heap.size + 1 := y2.trans zz2
  have K3 := K2.kept (g2.block _ (by omega) (by intro e; have e := Option.some.inj e; omega))
  have O3 := O2.kept (g2.block _ (by omega) (by intro e; have e := Option.some.inj e; omega))
  clear im2 g2 y2 b2 zz2 K2 O2
  obtain ⟨W4, r3, im4, g3, y3⟩ := im3.store (P := Tryz.prog) mapTE keyTE 93 (5, 91)
  have b4 := b3.grown g3 b3.size (fun k hk => by have hk := Option.some.inj hk; omega)
  have zz4 : W4.heap.size = w1.heap.size + 1 := y3.trans zz3
  have K4 := K3.kept (g3.block _ (by omega) (by intro e; have e := Option.some.inj e; omega))
  have O4 := O3.kept (g3.block _ (by omega) (by intro e; have e := Option.some.inj e; omega))
  clear im3 g3 y3 b3 zz3 K3 O3
  obtain ⟨W5, r4, im5, g4, y4⟩ := im4.store (P := Tryz.prog) mapTE keyTE 34 (6, 0)
  have b5 := b4.grown g4 b4.size (fun k hk => by have hk := Option.some.inj hk; omega)
  have zz5 : W5.heap.size = w1.heap.size + 1 := y4.trans zz4
  have K5 := K4.kept (g4.block _ (by omega) (by intro e; have e := Option.some.inj e; omega))
  have O5 := O4.kept (g4.block _ (by omega) (by intro e; have e := Option.some.inj e; omega))
  clear im4 g4 y4 b4 zz4 K4 O4
  obtain ⟨W6, r5, im6, g5, y5⟩ := im5.store (P := Tryz.prog) mapTE keyTE 92 (7, 0)
  have b6 := b5.grown g5 b5.size (fun k hk => by have hk := Option.some.inj hk; omega)
  have zz6 : W6.heap.size = w1.heap.size + 1 := y5.trans zz5
  have K6 := K5.kept (g5.block _ (by omega) (by intro e; have e := Option.some.inj e; omega))
  have O6 := O5.kept (g5.block _ (by omega) (by intro e; have e := Option.some.inj e; omega))
  clear im5 g5 y5 b5 zz5 K5 O5
  obtain ⟨W7, r6, im7, g6, y6⟩ := im6.store (P := Tryz.prog) mapTE keyTE 59 (8, 0)
  have b7 := b6.grown g6 b6.size (fun k hk => by have hk := Option.some.inj hk; omega)
  have zz7 : W7.heap.size = w1.heap.size + 1 := y6.trans zz6
  have K7 := K6.kept (g6.block _ (by omega) (by intro e; have e := Option.some.inj e; omega))
  have O7 := O6.kept (g6.block _ (by omega) (by intro e; have e := Option.some.inj e; omega))
  clear im6 g6 y6 b6 zz6 K6 O6
  obtain ⟨W8, r7, im8, g7, y7⟩ := im7.store (P := Tryz.prog) mapTE keyTE 10 (9, 0)
  have b8 := b7.grown g7 b7.size (fun k hk => by have hk := Option.some.inj hk; omega)
  have zz8 : W8.heap.size = w1.heap.size + 1 := y7.trans zz7
  have K8 := K7.kept (g7.block _ (by omega) (by intro e; have e := Option.some.inj e; omega))
  have O8 := O7.kept (g7.block _ (by omega) (by intro e; have e := Option.some.inj e; omega))
  clear im7 g7 y7 b7 zz7 K7 O7
  obtain ⟨W9, r8, im9, g8, y8⟩ := im8.store (P := Tryz.prog) mapTE keyTE 39 (10, 0)
  have b9 := b8.grown g8 b8.size (fun k hk => by have hk := Option.some.inj hk; omega)
  have zz9 : W9.heap.size = w1.heap.size + 1 := y8.trans zz8
  have K9 := K8.kept (g8.block _ (by omega) (by intro e; have e := Option.some.inj e; omega))
  have O9 := O8.kept (g8.block _ (by omega) (by intro e; have e := Option.some.inj e; omega))
  clear im8 g8 y8 b8 zz8 K8 O8
  obtain ⟨W10, r9, im10, g9, y9⟩ := im9.store (P := Tryz.prog) mapTE keyTE 96 (10, 0)
  have b10 := b9.grown g9 b9.size (fun k hk => by have hk := Option.some.inj hk; omega)
  have zz10 : W10.heap.size = w1.heap.size + 1 := y9.trans zz9
  have K10 := K9.kept (g9.block _ (by omega) (by intro e; have e := Option.some.inj e; omega))
  have O10 := O9.kept (g9.block _ (by omega) (by intro e; have e := Option.some.inj e; omega))
  clear im9 g9 y9 b9 zz9 K9 O9
  obtain ⟨W11, r10, im11, g10, y10⟩ := im10.store (P := Tryz.prog) mapTE keyTE 44 (10, 0)
  have b11 := b10.grown g10 b10.size (fun k hk => by have hk := Option.some.inj hk; omega)
  have zz11 : W11.heap.size = w1.heap.size + 1 := y10.trans zz10
  have K11 := K10.kept (g10.block _ (by omega) (by intro e; have e := Option.some.inj e; omega))
  have O11 := O10.kept (g10.block _ (by omega) (by intro e; have e := Option.some.inj e; omega))
  clear im10 g10 y10 b10 zz10 K10 O10
  have zr : w1.heap.size + 1 ≤ W11.heap.size := Nat.le_of_eq zz11.symm
  have zr2 := Lib.hid zz11
  have HIM := Lib.hid im11
  have HB := Lib.hid b11
  have HK := Lib.hid K11
  have HO := Lib.hid O11
  clear zz11 im11 b11 K11 O11
  have c0 := HK.out.cell (j := 0) rfl
  have f0 := HK.out.fz 0
  have hlt : w.heap.size + 1 < W11.heap.size := by omega
  go_wp2_with fail
  go_ret
  have zW : W11.heap.size = w1.heap.size + 1 := zr2.out
  have hal := below1 (W11.setCell ⟨w.heap.size + 1, 0, none⟩ (.func (.func 39) #[] #[pAt W11.heap.size])) (.cells #[.map (some w1.heap.size)] 76)
  have hsz : (W11.setCell ⟨w.heap.size + 1, 0, none⟩ (.func (.func 39) #[] #[pAt W11.heap.size])).heap.size = W11.heap.size := by simp
  have hk := Blk.made (W11.setCell ⟨w.heap.size + 1, 0, none⟩ (.func (.func 39) #[] #[pAt W11.heap.size])) 76 #[.map (some w1.heap.size)]
  rw [hsz] at hk
  refine ⟨w.heap.size + 1, W11.heap.size, w1.heap.size, w.heap.size, rfl, ?_, ⟨?_, hk, ?_, ?_⟩, by omega, by omega, by omega, Nat.le_refl _⟩
  · exact (HB.out.setCell (p := ⟨w.heap.size + 1, 0, none⟩) (by show w.heap.size ≤ w.heap.size + 1; omega) _).trans (hal.mono (by rw [hsz]; exact HB.out.size))
  · exact (HK.out.set (j := 0) (by simp) (.func (.func 39) #[] #[pAt W11.heap.size])).up hal
  · exact (HIM.out.kept (Below.heap_setCell _ _ _ _ (by show w1.heap.size ≠ w.heap.size + 1; omega))).kept (hal.block _ (by rw [hsz]; exact HIM.out.lt))
  · exact (HO.out.kept (Below.heap_setCell _ _ _ _ (by show w.heap.size ≠ w.heap.size + 1; omega))).kept (hal.block _ (by rw [hsz]; exact HO.out.lt))
end
end Go.Proofs.YtphdkcdkhklicaaGreatDoor
