import Derived.Test.YthjkdeocdhdkaaaGreatOsRb
import Derived.Test.YthjkdeocdhdkaaaGreatMixT
import Derived.Test.YthjkdeocdhdkaaaGreatIns
import Derived.Deep.DeepCutAuto
import Derived.Deep.CutBlock
/- Overlays, the reference: less. -/
namespace Go.Proofs.YthjkdeocdhdkaaaGreat
open Go.RowKit
set_option linter.unusedVariables false
set_option linter.unusedSimpArgs false
section
variable {w w' W : World} {x y : OverE} {p : Nat} {pr ev nx nm : Int} {v v' : Value} {A : Option Addr} {ps : List PropE}
theorem word_parts (ps : List PropE) (pr : Int) : ∃ b k n, wordV (valP ps pr) = .tuple #[.agg #[.int .i64 k, .int .i64 n], .bool b] ∧ ((b = false ∧ rankI pr ps = 0) ∨ (b = true ∧ k = 0 ∧ rankI pr ps = n) ∨ (b = true ∧ k ≠ 0 ∧ rankI pr ps = 0)) := by
  unfold rankI
  cases valP ps pr with
  | none => exact ⟨false, 0, 0, rfl, .inl ⟨rfl, rfl⟩⟩
  | some kn =>
    obtain ⟨k, n⟩ := kn
    refine ⟨true, k, n, rfl, ?_⟩
    by_cases h : k = 0
    · exact .inr (.inl ⟨rfl, h, if_pos h⟩)
    · exact .inr (.inr ⟨rfl, h, if_neg h⟩)
theorem lessD_eq (pr : Int) (x y : OverD) : lessD pr x y = true ↔ (rankI pr x.ps < rankI pr y.ps ∨ (rankI pr x.ps = rankI pr y.ps ∧ (x.f < y.f ∨ (x.f = y.f ∧ (y.t < x.t ∨ (y.t = x.t ∧ x.id < y.id)))))) := by
  unfold lessD
  rw [decide_eq_true_eq]
  exact cfD_lt pr x y
/-- Where value's answer is laid. -/
def AtWord (w1 : World) (k n : Int) (b : Bool) (va vb : Value) (wx : World) : Prop := ∃ q, va = .pointer (some ⟨q, 0, none⟩) ∧ vb = .bool b ∧ w1.heap.size ≤ q ∧ q < wx.heap.size ∧ Below w1.heap.size w1 wx ∧ wx.heap[q]? = some (.cells #[.int .i64 k, .int .i64 n] 29 (0, 0))
theorem AtWord.early {w1 wz wv : World} {k n : Int} {b : Bool} (hz : Below w1.heap.size w1 wz) (hv : Below (wz.alloc (.cells #[.int .i64 0, .int .i64 0] 29)).heap.size (wz.alloc (.cells #[.int .i64 0, .int .i64 0] 29)) wv) : True := trivial
set_option maxRecDepth 100000 in
set_option maxHeartbeats 4000000 in
theorem r_less (hc : w.cell? ⟨p, 2, none⟩ = some (.int .i64 pr)) (hp : p < w.heap.size) (hx : RSl encP w x.A x.ps) (hy : RSl encP w y.A y.ps) (sx : SortedP x.ps) (sy : SortedP y.ps) (lx : x.ps.length ≤ 1000000) (ly : y.ps.length ≤ 1000000) :
    Calls Tryz.prog 77 #[.pointer (some ⟨p, 0, none⟩), .agg (encO x).toArray, .agg (encO y).toArray] w fun e w' => e = .returned (.bool (lessD pr x.dat y.dat)) ∧ Below w.heap.size w w' := by
  obtain ⟨bx, kx, nx1, ex, dx⟩ := word_parts x.ps pr
  obtain ⟨by_, ky, ny, ey, dy⟩ := word_parts y.ps pr
  have hl := lessD_eq pr x.dat y.dat
  have hb0 : Below w.heap.size w ((w.alloc (.cells (encO x).toArray 69)).alloc (.cells (encO y).toArray 69)) := up2 (below1 w _) (below1 _ _)
  obtain ⟨xid, xf, xt, xfr, xre, xA, xc, xps, xg⟩ := x
  obtain ⟨yid, yf, yt, yfr, yre, yA, yc, yps, yg⟩ := y
  simp only [OverE.dat] at hl
  dsimp only at hx hy sx sy lx ly ex ey dx dy hl
  generalize rankI pr xps = r1 at dx hl
  generalize rankI pr yps = r2 at dy hl
  have HVX := Lib.hid (fun (d : World) (hd : Below w.heap.size w d) => rvalue_any (hx.up hd) sx xc pr lx)
  have HVY := Lib.hid (fun (d : World) (hd : Below w.heap.size w d) => rvalue_any (hy.up hd) sy yc pr ly)
  rw [ex] at HVX
  rw [ey] at HVY
  have HL := Lib.hid hl
  have HB0 := Lib.hid hb0
  have m4 := al2a w (.cells #[.int .i64 xid, .int .i64 xf, .int .i64 xt, .bool xfr, .bool xre, .slice xA xps.length xc] 69) (.cells #[.int .i64 yid, .int .i64 yf, .int .i64 yt, .bool yfr, .bool yre, .slice yA yps.length yc] 69)
  have m5 := al2b w (.cells #[.int .i64 xid, .int .i64 xf, .int .i64 xt, .bool xfr, .bool xre, .slice xA xps.length xc] 69) (.cells #[.int .i64 yid, .int .i64 yf, .int .i64 yt, .bool yfr, .bool yre, .slice yA yps.length yc] 69)
  change Below w.heap.size w ((w.alloc (.cells #[.int .i64 xid, .int .i64 xf, .int .i64 xt, .bool xfr, .bool xre, .slice xA xps.length xc] 69)).alloc (.cells #[.int .i64 yid, .int .i64 yf, .int .i64 yt, .bool yfr, .bool yre, .slice yA yps.length yc] 69)) at hb0
  have hz0 : ((w.alloc (.cells #[.int .i64 xid, .int .i64 xf, .int .i64 xt, .bool xfr, .bool xre, .slice xA xps.length xc] 69)).alloc (.cells #[.int .i64 yid, .int .i64 yf, .int .i64 yt, .bool yfr, .bool yre, .slice yA yps.length yc] 69)).heap.size = w.heap.size + 2 := by simp
  change Calls _ _ #[.pointer (some ⟨p, 0, none⟩), .agg #[.int .i64 xid, .int .i64 xf, .int .i64 xt, .bool xfr, .bool xre, .slice xA xps.length xc], .agg #[.int .i64 yid, .int .i64 yf, .int .i64 yt, .bool yfr, .bool yre, .slice yA yps.length yc]] _ _
  clear hx hy sx sy lx ly ex ey hl HB0
  go_enter Tryz.func77, Tryz.ntmps77
  go_upto_region 2 with fail
  generalize hW : (w.alloc (.cells #[.int .i64 xid, .int .i64 xf, .int .i64 xt, .bool xfr, .bool xre, .slice xA xps.length xc] 69)).alloc (.cells #[.int .i64 yid, .int .i64 yf, .int .i64 yt, .bool yfr, .bool yre, .slice yA yps.length yc] 69) = W1 at *
  clear hW
  have C2 : ∀ d : UpW W1.heap.size W1, d.w.cell? ⟨p, 2, none⟩ = some (.int .i64 pr) := fun d => ((hb0.trans (d.up.mono hb0.size)).cell (p := ⟨p, 2, none⟩) hp).trans hc
  have B5 : ∀ d : UpW W1.heap.size W1, d.w.cell? ⟨w.heap.size, 5, none⟩ = some (.slice xA xps.length xc) := fun d => cell_kind ((d.up.block w.heap.size (by omega)).trans m4) 5 _ rfl
  have D5 : ∀ d : UpW W1.heap.size W1, d.w.cell? ⟨w.heap.size + 1, 5, none⟩ = some (.slice yA yps.length yc) := fun d => cell_kind ((d.up.block (w.heap.size + 1) (by omega)).trans m5) 5 _ rfl
  go_cut [9, 10] from 12 (fun va vb wx => AtWord W1 kx nx1 bx va vb wx)
  case first =>
    refine wp_region_mixT W1.heap.size 13 (.two [0, 1, 2, 3, 4, 5] 6 (.one [7, 8, 9] 10 (.one [] 11 (.done [12]))) 10 (.one [] 6 (.one [7, 8, 9] 11 (.done [12])))) (by kernel_rfl) (fun c d v a w h => by cases d <;> exact h) (by kernel_rfl) ?_
    simp only [wpMixT, pk_nil, pk_cons, pushAt_zero, pushAt_succ, List.drop_succ_cons, List.drop_zero]
    repeat (go_big_quiet_step (fail))
    refine wpQuiet_nil ?_
    refine ⟨?_, ?_⟩
    · go_wp2_with fail
      refine (HVX.out _ hb0.drew).mono ?_
      rintro e w2 ⟨rfl, b2⟩
      have hb2 : Below W1.heap.size W1 w2 := (Below.refl _ W1).drew.trans b2
      go_wp2_with fail
      refine thenQ_normal ⟨⟨⟨_, hb2⟩, rfl⟩, ?_⟩
      repeat (go_big_quiet_step (fail))
      refine wpQuiet_nil ?_
      go_wp2_with fail
      refine thenQ_normal ⟨⟨⟨_, hb2.alloc hb2.size _⟩, rfl⟩, ?_⟩
      refine wpQuiet_nil ?_
      go_wp2_with fail
      refine thenQ_normal ⟨⟨⟨_, hb2.alloc hb2.size _⟩, rfl⟩, ?_⟩
      repeat (go_big_quiet_step (fail))
      refine wpQuiet_nil ?_
      go_wp2_with fail
      go_meet
      have hal := hb2.alloc hb2.size (.cells #[.int .i64 kx, .int .i64 nx1] 29)
      exact ⟨w2.heap.size, rfl, rfl, hb2.size, by simp, hal, (MapKept.heap_alloc w2 _).1⟩
    · go_wp2_with fail
      refine thenQ_normal ⟨⟨⟨_, (below1 W1 _).drew⟩, rfl⟩, ?_⟩
      refine wpQuiet_nil ?_
      go_wp2_with fail
      refine (HVX.out _ (up2 hb0 (below1 W1 _)).drew).mono ?_
      rintro e w2 ⟨rfl, b2⟩
      have hb2 : Below W1.heap.size W1 w2 := (below1 W1 (.cells #[.int .i64 0, .int .i64 0] 29)).drew.trans (b2.mono (by simp))
      have e2 : w2.heap[w.heap.size + 2]? = some (.cells #[.int .i64 0, .int .i64 0] 29 (0, 0)) := by
        rw [← hz0]; exact (b2.block W1.heap.size (by simp)).trans (MapKept.heap_alloc W1 _).1
      have q0 := cell_kind e2 0 _ rfl
      have q1 := cell_kind e2 1 _ rfl
      have z0 := fz_kind e2 0
      have z1 := fz_kind e2 1
      have hle : W1.heap.size ≤ w.heap.size + 2 := by omega
      have hs2 := (hb2.setCell (p := ⟨w.heap.size + 2, 0, none⟩) hle (.int .i64 kx)).setCell (p := ⟨w.heap.size + 2, 1, none⟩) hle (.int .i64 nx1)
      have g1 := heap_setCell_same w2 (w.heap.size + 2) 0 _ _ (.int .i64 kx) e2
      have g2 := heap_setCell_same _ (w.heap.size + 2) 1 _ _ (.int .i64 nx1) g1
      go_wp2_with fail
      refine thenQ_normal ⟨⟨⟨_, hb2⟩, rfl⟩, ?_⟩
      repeat (go_big_quiet_step (fail))
      refine wpQuiet_nil ?_
      go_wp2_with fail
      refine thenQ_normal ⟨⟨⟨_, hs2⟩, rfl⟩, ?_⟩
      repeat (go_big_quiet_step (fail))
      refine wpQuiet_nil ?_
      go_wp2_with fail
      go_meet
      exact ⟨w.heap.size + 2, rfl, rfl, hle, (Array.getElem?_eq_some_iff.1 g2).1, hs2, g2⟩
  case rest =>
    obtain ⟨q, rfl, rfl, hq1, hq2, hq3, hq4⟩ := hcut
    have k0 := cell_kind hq4 0 _ rfl
    have k1 := cell_kind hq4 1 _ rfl
    have HBC := hb0.trans (hq3.mono hb0.size)
    have C3 : ∀ d : UpW wc.heap.size wc, d.w.cell? ⟨p, 2, none⟩ = some (.int .i64 pr) := fun d => C2 ⟨d.w, hq3.trans (d.up.mono hq3.size)⟩
    have D6 : ∀ d : UpW wc.heap.size wc, d.w.cell? ⟨w.heap.size + 1, 5, none⟩ = some (.slice yA yps.length yc) := fun d => D5 ⟨d.w, hq3.trans (d.up.mono hq3.size)⟩
    have hsz := hq3.size
    have n4 := (hq3.block w.heap.size (by omega)).trans m4
    have n5 := (hq3.block (w.heap.size + 1) (by omega)).trans m5
    clear C2 D5 B5 m4 m5 hq4
    rcases dx with ⟨rfl, r⟩ | ⟨rfl, rfl, r⟩ | ⟨rfl, hk, r⟩
    · skip
      have RX := Lib.hid r
      clear r
      go_upto_region 5 with fail
      go_cut [10, 11] from 12 (fun vb va wx => AtWord wc ky ny by_ va vb wx)
      case first =>
        refine wp_region_mixT wc.heap.size 13 (.two [0, 1, 2, 3, 4, 5] 6 (.one [7, 8, 9] 10 (.one [] 11 (.done [12]))) 10 (.one [] 6 (.one [7, 8, 9] 11 (.done [12])))) (by kernel_rfl) (fun c d v a w h => by cases d <;> exact h) (by kernel_rfl) ?_
        simp only [wpMixT, pk_nil, pk_cons, pushAt_zero, pushAt_succ, List.drop_succ_cons, List.drop_zero]
        repeat (go_big_quiet_step (fail))
        refine wpQuiet_nil ?_
        refine ⟨?_, ?_⟩
        · go_wp2_with fail
          refine (HVY.out _ HBC.drew).mono ?_
          rintro e w2 ⟨rfl, b2⟩
          have hb2 : Below wc.heap.size wc w2 := (Below.refl _ wc).drew.trans b2
          go_wp2_with fail
          refine thenQ_normal ⟨⟨⟨_, hb2⟩, rfl⟩, ?_⟩
          repeat (go_big_quiet_step (fail))
          refine wpQuiet_nil ?_
          go_wp2_with fail
          refine thenQ_normal ⟨⟨⟨_, hb2.alloc hb2.size _⟩, rfl⟩, ?_⟩
          refine wpQuiet_nil ?_
          go_wp2_with fail
          refine thenQ_normal ⟨⟨⟨_, hb2.alloc hb2.size _⟩, rfl⟩, ?_⟩
          repeat (go_big_quiet_step (fail))
          refine wpQuiet_nil ?_
          go_wp2_with fail
          go_meet
          have hal := hb2.alloc hb2.size (.cells #[.int .i64 ky, .int .i64 ny] 29)
          exact ⟨w2.heap.size, rfl, rfl, hb2.size, by simp, hal, (MapKept.heap_alloc w2 _).1⟩
        · go_wp2_with fail
          refine thenQ_normal ⟨⟨⟨_, (below1 wc _).drew⟩, rfl⟩, ?_⟩
          refine wpQuiet_nil ?_
          go_wp2_with fail
          refine (HVY.out _ (up2 HBC (below1 wc _)).drew).mono ?_
          rintro e w2 ⟨rfl, b2⟩
          have hb2 : Below wc.heap.size wc w2 := (below1 wc (.cells #[.int .i64 0, .int .i64 0] 29)).drew.trans (b2.mono (by simp))
          have e2 : w2.heap[wc.heap.size]? = some (.cells #[.int .i64 0, .int .i64 0] 29 (0, 0)) := by
            exact (b2.block wc.heap.size (by simp)).trans (MapKept.heap_alloc wc _).1
          have q0 := cell_kind e2 0 _ rfl
          have q1 := cell_kind e2 1 _ rfl
          have z0 := fz_kind e2 0
          have z1 := fz_kind e2 1
          have hle : wc.heap.size ≤ wc.heap.size := by omega
          have hs2 := (hb2.setCell (p := ⟨wc.heap.size, 0, none⟩) hle (.int .i64 ky)).setCell (p := ⟨wc.heap.size, 1, none⟩) hle (.int .i64 ny)
          have g1 := heap_setCell_same w2 (wc.heap.size) 0 _ _ (.int .i64 ky) e2
          have g2 := heap_setCell_same _ (wc.heap.size) 1 _ _ (.int .i64 ny) g1
          go_wp2_with fail
          refine thenQ_normal ⟨⟨⟨_, hb2⟩, rfl⟩, ?_⟩
          repeat (go_big_quiet_step (fail))
          refine wpQuiet_nil ?_
          go_wp2_with fail
          refine thenQ_normal ⟨⟨⟨_, hs2⟩, rfl⟩, ?_⟩
          repeat (go_big_quiet_step (fail))
          refine wpQuiet_nil ?_
          go_wp2_with fail
          go_meet
          exact ⟨wc.heap.size, rfl, rfl, hle, (Array.getElem?_eq_some_iff.1 g2).1, hs2, g2⟩
      case rest =>
        obtain ⟨q2, rfl, rfl, hr1, hr2, hr3, hr4⟩ := hcut
        obtain ⟨wd, hwd⟩ : ∃ x, x = wc := ⟨_, rfl⟩
        have l0 := cell_kind hr4 0 _ rfl
        have l1 := cell_kind hr4 1 _ rfl
        have o4 := (hr3.block w.heap.size (by omega)).trans n4
        have o5 := (hr3.block (w.heap.size + 1) (by omega)).trans n5
        have a0 := cell_kind o4 0 _ rfl
        have c0 := cell_kind o5 0 _ rfl
        have a1 := cell_kind o4 1 _ rfl
        have c1 := cell_kind o5 1 _ rfl
        have a2 := cell_kind o4 2 _ rfl
        have c2 := cell_kind o5 2 _ rfl
        have HBW := HBC.trans (hr3.mono HBC.size)
        rcases dy with ⟨rfl, r⟩ | ⟨rfl, rfl, r⟩ | ⟨rfl, hk, r⟩
        · skip
          have RY := Lib.hid r
          clear r
          go_upto_region 8 with fail
          go_cut [7, 8, 48] from 49 (fun va vb vc wx => va = .int .i64 (r1) ∧ vb = .int .i64 (r2) ∧ vc = .bool (r1 != r2) ∧ wx = wd)
          case first =>
            go_wp2_with fail
            go_meet
            exact ⟨by rw [RX.out], by rw [RY.out], by first | (rw [RX.out, RY.out]; done) | (rw [RX.out, RY.out]; rfl), hwd.symm⟩
          case rest =>
            obtain ⟨rfl, rfl, rfl, rfl⟩ := hcut
            clear RX RY
            by_cases e1 : r1 = r2
            · have be1 : (r1 != r2) = false := by simp [e1]
              by_cases e2 : xf = yf
              · have be2 : (xf != yf) = false := by simp [e2]
                by_cases e3 : xt = yt
                · have be3 : (xt != yt) = false := by simp [e3]
                  go_wp2_with fail
                  go_ret
                  refine ⟨congrArg (fun b => Ending.returned (.bool b)) ?_, HBW⟩
                  refine Bool.eq_iff_iff.2 (Iff.trans ?_ HL.out.symm)
                  first | (simp only [decide_eq_true_eq, Bool.false_eq_true, true_iff, false_iff]; omega) | (simp; omega)
                · have be3 : (xt != yt) = true := by simpa using e3
                  go_wp2_with fail
                  go_ret
                  refine ⟨congrArg (fun b => Ending.returned (.bool b)) ?_, HBW⟩
                  refine Bool.eq_iff_iff.2 (Iff.trans ?_ HL.out.symm)
                  first | (simp only [decide_eq_true_eq, Bool.false_eq_true, true_iff, false_iff]; omega) | (simp; omega)
              · have be2 : (xf != yf) = true := by simpa using e2
                go_wp2_with fail
                go_ret
                refine ⟨congrArg (fun b => Ending.returned (.bool b)) ?_, HBW⟩
                refine Bool.eq_iff_iff.2 (Iff.trans ?_ HL.out.symm)
                first | (simp only [decide_eq_true_eq, Bool.false_eq_true, true_iff, false_iff]; omega) | (simp; omega)
            · have be1 : (r1 != r2) = true := by simpa using e1
              go_wp2_with fail
              go_ret
              refine ⟨congrArg (fun b => Ending.returned (.bool b)) ?_, HBW⟩
              refine Bool.eq_iff_iff.2 (Iff.trans ?_ HL.out.symm)
              first | (simp only [decide_eq_true_eq, Bool.false_eq_true, true_iff, false_iff]; omega) | (simp; omega)
        · skip
          have RY := Lib.hid r
          clear r
          go_upto_region 8 with fail
          go_cut [7, 8, 48] from 49 (fun va vb vc wx => va = .int .i64 (r1) ∧ vb = .int .i64 (r2) ∧ vc = .bool (r1 != r2) ∧ wx = wd)
          case first =>
            go_wp2_with fail
            go_meet
            exact ⟨by rw [RX.out], by rw [RY.out], by first | (rw [RX.out, RY.out]; done) | (rw [RX.out, RY.out]; rfl), hwd.symm⟩
          case rest =>
            obtain ⟨rfl, rfl, rfl, rfl⟩ := hcut
            clear RX RY
            by_cases e1 : r1 = r2
            · have be1 : (r1 != r2) = false := by simp [e1]
              by_cases e2 : xf = yf
              · have be2 : (xf != yf) = false := by simp [e2]
                by_cases e3 : xt = yt
                · have be3 : (xt != yt) = false := by simp [e3]
                  go_wp2_with fail
                  go_ret
                  refine ⟨congrArg (fun b => Ending.returned (.bool b)) ?_, HBW⟩
                  refine Bool.eq_iff_iff.2 (Iff.trans ?_ HL.out.symm)
                  first | (simp only [decide_eq_true_eq, Bool.false_eq_true, true_iff, false_iff]; omega) | (simp; omega)
                · have be3 : (xt != yt) = true := by simpa using e3
                  go_wp2_with fail
                  go_ret
                  refine ⟨congrArg (fun b => Ending.returned (.bool b)) ?_, HBW⟩
                  refine Bool.eq_iff_iff.2 (Iff.trans ?_ HL.out.symm)
                  first | (simp only [decide_eq_true_eq, Bool.false_eq_true, true_iff, false_iff]; omega) | (simp; omega)
              · have be2 : (xf != yf) = true := by simpa using e2
                go_wp2_with fail
                go_ret
                refine ⟨congrArg (fun b => Ending.returned (.bool b)) ?_, HBW⟩
                refine Bool.eq_iff_iff.2 (Iff.trans ?_ HL.out.symm)
                first | (simp only [decide_eq_true_eq, Bool.false_eq_true, true_iff, false_iff]; omega) | (simp; omega)
            · have be1 : (r1 != r2) = true := by simpa using e1
              go_wp2_with fail
              go_ret
              refine ⟨congrArg (fun b => Ending.returned (.bool b)) ?_, HBW⟩
              refine Bool.eq_iff_iff.2 (Iff.trans ?_ HL.out.symm)
              first | (simp only [decide_eq_true_eq, Bool.false_eq_true, true_iff, false_iff]; omega) | (simp; omega)
        · have bk : (ky == 0) = false := by simpa using hk
          have RY := Lib.hid r
          clear r
          go_upto_region 8 with fail
          go_cut [7, 8, 48] from 49 (fun va vb vc wx => va = .int .i64 (r1) ∧ vb = .int .i64 (r2) ∧ vc = .bool (r1 != r2) ∧ wx = wd)
          case first =>
            go_wp2_with fail
            go_meet
            exact ⟨by rw [RX.out], by rw [RY.out], by first | (rw [RX.out, RY.out]; done) | (rw [RX.out, RY.out]; rfl), hwd.symm⟩
          case rest =>
            obtain ⟨rfl, rfl, rfl, rfl⟩ := hcut
            clear RX RY
            by_cases e1 : r1 = r2
            · have be1 : (r1 != r2) = false := by simp [e1]
              by_cases e2 : xf = yf
              · have be2 : (xf != yf) = false := by simp [e2]
                by_cases e3 : xt = yt
                · have be3 : (xt != yt) = false := by simp [e3]
                  go_wp2_with fail
                  go_ret
                  refine ⟨congrArg (fun b => Ending.returned (.bool b)) ?_, HBW⟩
                  refine Bool.eq_iff_iff.2 (Iff.trans ?_ HL.out.symm)
                  first | (simp only [decide_eq_true_eq, Bool.false_eq_true, true_iff, false_iff]; omega) | (simp; omega)
                · have be3 : (xt != yt) = true := by simpa using e3
                  go_wp2_with fail
                  go_ret
                  refine ⟨congrArg (fun b => Ending.returned (.bool b)) ?_, HBW⟩
                  refine Bool.eq_iff_iff.2 (Iff.trans ?_ HL.out.symm)
                  first | (simp only [decide_eq_true_eq, Bool.false_eq_true, true_iff, false_iff]; omega) | (simp; omega)
              · have be2 : (xf != yf) = true := by simpa using e2
                go_wp2_with fail
                go_ret
                refine ⟨congrArg (fun b => Ending.returned (.bool b)) ?_, HBW⟩
                refine Bool.eq_iff_iff.2 (Iff.trans ?_ HL.out.symm)
                first | (simp only [decide_eq_true_eq, Bool.false_eq_true, true_iff, false_iff]; omega) | (simp; omega)
            · have be1 : (r1 != r2) = true := by simpa using e1
              go_wp2_with fail
              go_ret
              refine ⟨congrArg (fun b => Ending.returned (.bool b)) ?_, HBW⟩
              refine Bool.eq_iff_iff.2 (Iff.trans ?_ HL.out.symm)
              first | (simp only [decide_eq_true_eq, Bool.false_eq_true, true_iff, false_iff]; omega) | (simp; omega)
    · skip
      have RX := Lib.hid r
      clear r
      go_upto_region 5 with fail
      go_cut [10, 11] from 12 (fun vb va wx => AtWord wc ky ny by_ va vb wx)
      case first =>
        refine wp_region_mixT wc.heap.size 13 (.two [0, 1, 2, 3, 4, 5] 6 (.one [7, 8, 9] 10 (.one [] 11 (.done [12]))) 10 (.one [] 6 (.one [7, 8, 9] 11 (.done [12])))) (by kernel_rfl) (fun c d v a w h => by cases d <;> exact h) (by kernel_rfl) ?_
        simp only [wpMixT, pk_nil, pk_cons, pushAt_zero, pushAt_succ, List.drop_succ_cons, List.drop_zero]
        repeat (go_big_quiet_step (fail))
        refine wpQuiet_nil ?_
        refine ⟨?_, ?_⟩
        · go_wp2_with fail
          refine (HVY.out _ HBC.drew).mono ?_
          rintro e w2 ⟨rfl, b2⟩
          have hb2 : Below wc.heap.size wc w2 := (Below.refl _ wc).drew.trans b2
          go_wp2_with fail
          refine thenQ_normal ⟨⟨⟨_, hb2⟩, rfl⟩, ?_⟩
          repeat (go_big_quiet_step (fail))
          refine wpQuiet_nil ?_
          go_wp2_with fail
          refine thenQ_normal ⟨⟨⟨_, hb2.alloc hb2.size _⟩, rfl⟩, ?_⟩
          refine wpQuiet_nil ?_
          go_wp2_with fail
          refine thenQ_normal ⟨⟨⟨_, hb2.alloc hb2.size _⟩, rfl⟩, ?_⟩
          repeat (go_big_quiet_step (fail))
          refine wpQuiet_nil ?_
          go_wp2_with fail
          go_meet
          have hal := hb2.alloc hb2.size (.cells #[.int .i64 ky, .int .i64 ny] 29)
          exact ⟨w2.heap.size, rfl, rfl, hb2.size, by simp, hal, (MapKept.heap_alloc w2 _).1⟩
        · go_wp2_with fail
          refine thenQ_normal ⟨⟨⟨_, (below1 wc _).drew⟩, rfl⟩, ?_⟩
          refine wpQuiet_nil ?_
          go_wp2_with fail
          refine (HVY.out _ (up2 HBC (below1 wc _)).drew).mono ?_
          rintro e w2 ⟨rfl, b2⟩
          have hb2 : Below wc.heap.size wc w2 := (below1 wc (.cells #[.int .i64 0, .int .i64 0] 29)).drew.trans (b2.mono (by simp))
          have e2 : w2.heap[wc.heap.size]? = some (.cells #[.int .i64 0, .int .i64 0] 29 (0, 0)) := by
            exact (b2.block wc.heap.size (by simp)).trans (MapKept.heap_alloc wc _).1
          have q0 := cell_kind e2 0 _ rfl
          have q1 := cell_kind e2 1 _ rfl
          have z0 := fz_kind e2 0
          have z1 := fz_kind e2 1
          have hle : wc.heap.size ≤ wc.heap.size := by omega
          have hs2 := (hb2.setCell (p := ⟨wc.heap.size, 0, none⟩) hle (.int .i64 ky)).setCell (p := ⟨wc.heap.size, 1, none⟩) hle (.int .i64 ny)
          have g1 := heap_setCell_same w2 (wc.heap.size) 0 _ _ (.int .i64 ky) e2
          have g2 := heap_setCell_same _ (wc.heap.size) 1 _ _ (.int .i64 ny) g1
          go_wp2_with fail
          refine thenQ_normal ⟨⟨⟨_, hb2⟩, rfl⟩, ?_⟩
          repeat (go_big_quiet_step (fail))
          refine wpQuiet_nil ?_
          go_wp2_with fail
          refine thenQ_normal ⟨⟨⟨_, hs2⟩, rfl⟩, ?_⟩
          repeat (go_big_quiet_step (fail))
          refine wpQuiet_nil ?_
          go_wp2_with fail
          go_meet
          exact ⟨wc.heap.size, rfl, rfl, hle, (Array.getElem?_eq_some_iff.1 g2).1, hs2, g2⟩
      case rest =>
        obtain ⟨q2, rfl, rfl, hr1, hr2, hr3, hr4⟩ := hcut
        obtain ⟨wd, hwd⟩ : ∃ x, x = wc := ⟨_, rfl⟩
        have l0 := cell_kind hr4 0 _ rfl
        have l1 := cell_kind hr4 1 _ rfl
        have o4 := (hr3.block w.heap.size (by omega)).trans n4
        have o5 := (hr3.block (w.heap.size + 1) (by omega)).trans n5
        have a0 := cell_kind o4 0 _ rfl
        have c0 := cell_kind o5 0 _ rfl
        have a1 := cell_kind o4 1 _ rfl
        have c1 := cell_kind o5 1 _ rfl
        have a2 := cell_kind o4 2 _ rfl
        have c2 := cell_kind o5 2 _ rfl
        have HBW := HBC.trans (hr3.mono HBC.size)
        rcases dy with ⟨rfl, r⟩ | ⟨rfl, rfl, r⟩ | ⟨rfl, hk, r⟩
        · skip
          have RY := Lib.hid r
          clear r
          go_upto_region 8 with fail
          go_cut [7, 8, 48] from 49 (fun va vb vc wx => va = .int .i64 (r1) ∧ vb = .int .i64 (r2) ∧ vc = .bool (r1 != r2) ∧ wx = wd)
          case first =>
            go_wp2_with fail
            go_meet
            exact ⟨by rw [RX.out], by rw [RY.out], by first | (rw [RX.out, RY.out]; done) | (rw [RX.out, RY.out]; rfl), hwd.symm⟩
          case rest =>
            obtain ⟨rfl, rfl, rfl, rfl⟩ := hcut
            clear RX RY
            by_cases e1 : r1 = r2
            · have be1 : (r1 != r2) = false := by simp [e1]
              by_cases e2 : xf = yf
              · have be2 : (xf != yf) = false := by simp [e2]
                by_cases e3 : xt = yt
                · have be3 : (xt != yt) = false := by simp [e3]
                  go_wp2_with fail
                  go_ret
                  refine ⟨congrArg (fun b => Ending.returned (.bool b)) ?_, HBW⟩
                  refine Bool.eq_iff_iff.2 (Iff.trans ?_ HL.out.symm)
                  first | (simp only [decide_eq_true_eq, Bool.false_eq_true, true_iff, false_iff]; omega) | (simp; omega)
                · have be3 : (xt != yt) = true := by simpa using e3
                  go_wp2_with fail
                  go_ret
                  refine ⟨congrArg (fun b => Ending.returned (.bool b)) ?_, HBW⟩
                  refine Bool.eq_iff_iff.2 (Iff.trans ?_ HL.out.symm)
                  first | (simp only [decide_eq_true_eq, Bool.false_eq_true, true_iff, false_iff]; omega) | (simp; omega)
              · have be2 : (xf != yf) = true := by simpa using e2
                go_wp2_with fail
                go_ret
                refine ⟨congrArg (fun b => Ending.returned (.bool b)) ?_, HBW⟩
                refine Bool.eq_iff_iff.2 (Iff.trans ?_ HL.out.symm)
                first | (simp only [decide_eq_true_eq, Bool.false_eq_true, true_iff, false_iff]; omega) | (simp; omega)
            · have be1 : (r1 != r2) = true := by simpa using e1
              go_wp2_with fail
              go_ret
              refine ⟨congrArg (fun b => Ending.returned (.bool b)) ?_, HBW⟩
              refine Bool.eq_iff_iff.2 (Iff.trans ?_ HL.out.symm)
              first | (simp only [decide_eq_true_eq, Bool.false_eq_true, true_iff, false_iff]; omega) | (simp; omega)
        · skip
          have RY := Lib.hid r
          clear r
          go_upto_region 8 with fail
          go_cut [7, 8, 48] from 49 (fun va vb vc wx => va = .int .i64 (r1) ∧ vb = .int .i64 (r2) ∧ vc = .bool (r1 != r2) ∧ wx = wd)
          case first =>
            go_wp2_with fail
            go_meet
            exact ⟨by rw [RX.out], by rw [RY.out], by first | (rw [RX.out, RY.out]; done) | (rw [RX.out, RY.out]; rfl), hwd.symm⟩
          case rest =>
            obtain ⟨rfl, rfl, rfl, rfl⟩ := hcut
            clear RX RY
            by_cases e1 : r1 = r2
            · have be1 : (r1 != r2) = false := by simp [e1]
              by_cases e2 : xf = yf
              · have be2 : (xf != yf) = false := by simp [e2]
                by_cases e3 : xt = yt
                · have be3 : (xt != yt) = false := by simp [e3]
                  go_wp2_with fail
                  go_ret
                  refine ⟨congrArg (fun b => Ending.returned (.bool b)) ?_, HBW⟩
                  refine Bool.eq_iff_iff.2 (Iff.trans ?_ HL.out.symm)
                  first | (simp only [decide_eq_true_eq, Bool.false_eq_true, true_iff, false_iff]; omega) | (simp; omega)
                · have be3 : (xt != yt) = true := by simpa using e3
                  go_wp2_with fail
                  go_ret
                  refine ⟨congrArg (fun b => Ending.returned (.bool b)) ?_, HBW⟩
                  refine Bool.eq_iff_iff.2 (Iff.trans ?_ HL.out.symm)
                  first | (simp only [decide_eq_true_eq, Bool.false_eq_true, true_iff, false_iff]; omega) | (simp; omega)
              · have be2 : (xf != yf) = true := by simpa using e2
                go_wp2_with fail
                go_ret
                refine ⟨congrArg (fun b => Ending.returned (.bool b)) ?_, HBW⟩
                refine Bool.eq_iff_iff.2 (Iff.trans ?_ HL.out.symm)
                first | (simp only [decide_eq_true_eq, Bool.false_eq_true, true_iff, false_iff]; omega) | (simp; omega)
            · have be1 : (r1 != r2) = true := by simpa using e1
              go_wp2_with fail
              go_ret
              refine ⟨congrArg (fun b => Ending.returned (.bool b)) ?_, HBW⟩
              refine Bool.eq_iff_iff.2 (Iff.trans ?_ HL.out.symm)
              first | (simp only [decide_eq_true_eq, Bool.false_eq_true, true_iff, false_iff]; omega) | (simp; omega)
        · have bk : (ky == 0) = false := by simpa using hk
          have RY := Lib.hid r
          clear r
          go_upto_region 8 with fail
          go_cut [7, 8, 48] from 49 (fun va vb vc wx => va = .int .i64 (r1) ∧ vb = .int .i64 (r2) ∧ vc = .bool (r1 != r2) ∧ wx = wd)
          case first =>
            go_wp2_with fail
            go_meet
            exact ⟨by rw [RX.out], by rw [RY.out], by first | (rw [RX.out, RY.out]; done) | (rw [RX.out, RY.out]; rfl), hwd.symm⟩
          case rest =>
            obtain ⟨rfl, rfl, rfl, rfl⟩ := hcut
            clear RX RY
            by_cases e1 : r1 = r2
            · have be1 : (r1 != r2) = false := by simp [e1]
              by_cases e2 : xf = yf
              · have be2 : (xf != yf) = false := by simp [e2]
                by_cases e3 : xt = yt
                · have be3 : (xt != yt) = false := by simp [e3]
                  go_wp2_with fail
                  go_ret
                  refine ⟨congrArg (fun b => Ending.returned (.bool b)) ?_, HBW⟩
                  refine Bool.eq_iff_iff.2 (Iff.trans ?_ HL.out.symm)
                  first | (simp only [decide_eq_true_eq, Bool.false_eq_true, true_iff, false_iff]; omega) | (simp; omega)
                · have be3 : (xt != yt) = true := by simpa using e3
                  go_wp2_with fail
                  go_ret
                  refine ⟨congrArg (fun b => Ending.returned (.bool b)) ?_, HBW⟩
                  refine Bool.eq_iff_iff.2 (Iff.trans ?_ HL.out.symm)
                  first | (simp only [decide_eq_true_eq, Bool.false_eq_true, true_iff, false_iff]; omega) | (simp; omega)
              · have be2 : (xf != yf) = true := by simpa using e2
                go_wp2_with fail
                go_ret
                refine ⟨congrArg (fun b => Ending.returned (.bool b)) ?_, HBW⟩
                refine Bool.eq_iff_iff.2 (Iff.trans ?_ HL.out.symm)
                first | (simp only [decide_eq_true_eq, Bool.false_eq_true, true_iff, false_iff]; omega) | (simp; omega)
            · have be1 : (r1 != r2) = true := by simpa using e1
              go_wp2_with fail
              go_ret
              refine ⟨congrArg (fun b => Ending.returned (.bool b)) ?_, HBW⟩
              refine Bool.eq_iff_iff.2 (Iff.trans ?_ HL.out.symm)
              first | (simp only [decide_eq_true_eq, Bool.false_eq_true, true_iff, false_iff]; omega) | (simp; omega)
    · have bk : (kx == 0) = false := by simpa using hk
      have RX := Lib.hid r
      clear r
      go_upto_region 5 with fail
      go_cut [10, 11] from 12 (fun vb va wx => AtWord wc ky ny by_ va vb wx)
      case first =>
        refine wp_region_mixT wc.heap.size 13 (.two [0, 1, 2, 3, 4, 5] 6 (.one [7, 8, 9] 10 (.one [] 11 (.done [12]))) 10 (.one [] 6 (.one [7, 8, 9] 11 (.done [12])))) (by kernel_rfl) (fun c d v a w h => by cases d <;> exact h) (by kernel_rfl) ?_
        simp only [wpMixT, pk_nil, pk_cons, pushAt_zero, pushAt_succ, List.drop_succ_cons, List.drop_zero]
        repeat (go_big_quiet_step (fail))
        refine wpQuiet_nil ?_
        refine ⟨?_, ?_⟩
        · go_wp2_with fail
          refine (HVY.out _ HBC.drew).mono ?_
          rintro e w2 ⟨rfl, b2⟩
          have hb2 : Below wc.heap.size wc w2 := (Below.refl _ wc).drew.trans b2
          go_wp2_with fail
          refine thenQ_normal ⟨⟨⟨_, hb2⟩, rfl⟩, ?_⟩
          repeat (go_big_quiet_step (fail))
          refine wpQuiet_nil ?_
          go_wp2_with fail
          refine thenQ_normal ⟨⟨⟨_, hb2.alloc hb2.size _⟩, rfl⟩, ?_⟩
          refine wpQuiet_nil ?_
          go_wp2_with fail
          refine thenQ_normal ⟨⟨⟨_, hb2.alloc hb2.size _⟩, rfl⟩, ?_⟩
          repeat (go_big_quiet_step (fail))
          refine wpQuiet_nil ?_
          go_wp2_with fail
          go_meet
          have hal := hb2.alloc hb2.size (.cells #[.int .i64 ky, .int .i64 ny] 29)
          exact ⟨w2.heap.size, rfl, rfl, hb2.size, by simp, hal, (MapKept.heap_alloc w2 _).1⟩
        · go_wp2_with fail
          refine thenQ_normal ⟨⟨⟨_, (below1 wc _).drew⟩, rfl⟩, ?_⟩
          refine wpQuiet_nil ?_
          go_wp2_with fail
          refine (HVY.out _ (up2 HBC (below1 wc _)).drew).mono ?_
          rintro e w2 ⟨rfl, b2⟩
          have hb2 : Below wc.heap.size wc w2 := (below1 wc (.cells #[.int .i64 0, .int .i64 0] 29)).drew.trans (b2.mono (by simp))
          have e2 : w2.heap[wc.heap.size]? = some (.cells #[.int .i64 0, .int .i64 0] 29 (0, 0)) := by
            exact (b2.block wc.heap.size (by simp)).trans (MapKept.heap_alloc wc _).1
          have q0 := cell_kind e2 0 _ rfl
          have q1 := cell_kind e2 1 _ rfl
          have z0 := fz_kind e2 0
          have z1 := fz_kind e2 1
          have hle : wc.heap.size ≤ wc.heap.size := by omega
          have hs2 := (hb2.setCell (p := ⟨wc.heap.size, 0, none⟩) hle (.int .i64 ky)).setCell (p := ⟨wc.heap.size, 1, none⟩) hle (.int .i64 ny)
          have g1 := heap_setCell_same w2 (wc.heap.size) 0 _ _ (.int .i64 ky) e2
          have g2 := heap_setCell_same _ (wc.heap.size) 1 _ _ (.int .i64 ny) g1
          go_wp2_with fail
          refine thenQ_normal ⟨⟨⟨_, hb2⟩, rfl⟩, ?_⟩
          repeat (go_big_quiet_step (fail))
          refine wpQuiet_nil ?_
          go_wp2_with fail
          refine thenQ_normal ⟨⟨⟨_, hs2⟩, rfl⟩, ?_⟩
          repeat (go_big_quiet_step (fail))
          refine wpQuiet_nil ?_
          go_wp2_with fail
          go_meet
          exact ⟨wc.heap.size, rfl, rfl, hle, (Array.getElem?_eq_some_iff.1 g2).1, hs2, g2⟩
      case rest =>
        obtain ⟨q2, rfl, rfl, hr1, hr2, hr3, hr4⟩ := hcut
        obtain ⟨wd, hwd⟩ : ∃ x, x = wc := ⟨_, rfl⟩
        have l0 := cell_kind hr4 0 _ rfl
        have l1 := cell_kind hr4 1 _ rfl
        have o4 := (hr3.block w.heap.size (by omega)).trans n4
        have o5 := (hr3.block (w.heap.size + 1) (by omega)).trans n5
        have a0 := cell_kind o4 0 _ rfl
        have c0 := cell_kind o5 0 _ rfl
        have a1 := cell_kind o4 1 _ rfl
        have c1 := cell_kind o5 1 _ rfl
        have a2 := cell_kind o4 2 _ rfl
        have c2 := cell_kind o5 2 _ rfl
        have HBW := HBC.trans (hr3.mono HBC.size)
        rcases dy with ⟨rfl, r⟩ | ⟨rfl, rfl, r⟩ | ⟨rfl, hk, r⟩
        · skip
          have RY := Lib.hid r
          clear r
          go_upto_region 8 with fail
          go_cut [7, 8, 48] from 49 (fun va vb vc wx => va = .int .i64 (r1) ∧ vb = .int .i64 (r2) ∧ vc = .bool (r1 != r2) ∧ wx = wd)
          case first =>
            go_wp2_with fail
            go_meet
            exact ⟨by rw [RX.out], by rw [RY.out], by first | (rw [RX.out, RY.out]; done) | (rw [RX.out, RY.out]; rfl), hwd.symm⟩
          case rest =>
            obtain ⟨rfl, rfl, rfl, rfl⟩ := hcut
            clear RX RY
            by_cases e1 : r1 = r2
            · have be1 : (r1 != r2) = false := by simp [e1]
              by_cases e2 : xf = yf
              · have be2 : (xf != yf) = false := by simp [e2]
                by_cases e3 : xt = yt
                · have be3 : (xt != yt) = false := by simp [e3]
                  go_wp2_with fail
                  go_ret
                  refine ⟨congrArg (fun b => Ending.returned (.bool b)) ?_, HBW⟩
                  refine Bool.eq_iff_iff.2 (Iff.trans ?_ HL.out.symm)
                  first | (simp only [decide_eq_true_eq, Bool.false_eq_true, true_iff, false_iff]; omega) | (simp; omega)
                · have be3 : (xt != yt) = true := by simpa using e3
                  go_wp2_with fail
                  go_ret
                  refine ⟨congrArg (fun b => Ending.returned (.bool b)) ?_, HBW⟩
                  refine Bool.eq_iff_iff.2 (Iff.trans ?_ HL.out.symm)
                  first | (simp only [decide_eq_true_eq, Bool.false_eq_true, true_iff, false_iff]; omega) | (simp; omega)
              · have be2 : (xf != yf) = true := by simpa using e2
                go_wp2_with fail
                go_ret
                refine ⟨congrArg (fun b => Ending.returned (.bool b)) ?_, HBW⟩
                refine Bool.eq_iff_iff.2 (Iff.trans ?_ HL.out.symm)
                first | (simp only [decide_eq_true_eq, Bool.false_eq_true, true_iff, false_iff]; omega) | (simp; omega)
            · have be1 : (r1 != r2) = true := by simpa using e1
              go_wp2_with fail
              go_ret
              refine ⟨congrArg (fun b => Ending.returned (.bool b)) ?_, HBW⟩
              refine Bool.eq_iff_iff.2 (Iff.trans ?_ HL.out.symm)
              first | (simp only [decide_eq_true_eq, Bool.false_eq_true, true_iff, false_iff]; omega) | (simp; omega)
        · skip
          have RY := Lib.hid r
          clear r
          go_upto_region 8 with fail
          go_cut [7, 8, 48] from 49 (fun va vb vc wx => va = .int .i64 (r1) ∧ vb = .int .i64 (r2) ∧ vc = .bool (r1 != r2) ∧ wx = wd)
          case first =>
            go_wp2_with fail
            go_meet
            exact ⟨by rw [RX.out], by rw [RY.out], by first | (rw [RX.out, RY.out]; done) | (rw [RX.out, RY.out]; rfl), hwd.symm⟩
          case rest =>
            obtain ⟨rfl, rfl, rfl, rfl⟩ := hcut
            clear RX RY
            by_cases e1 : r1 = r2
            · have be1 : (r1 != r2) = false := by simp [e1]
              by_cases e2 : xf = yf
              · have be2 : (xf != yf) = false := by simp [e2]
                by_cases e3 : xt = yt
                · have be3 : (xt != yt) = false := by simp [e3]
                  go_wp2_with fail
                  go_ret
                  refine ⟨congrArg (fun b => Ending.returned (.bool b)) ?_, HBW⟩
                  refine Bool.eq_iff_iff.2 (Iff.trans ?_ HL.out.symm)
                  first | (simp only [decide_eq_true_eq, Bool.false_eq_true, true_iff, false_iff]; omega) | (simp; omega)
                · have be3 : (xt != yt) = true := by simpa using e3
                  go_wp2_with fail
                  go_ret
                  refine ⟨congrArg (fun b => Ending.returned (.bool b)) ?_, HBW⟩
                  refine Bool.eq_iff_iff.2 (Iff.trans ?_ HL.out.symm)
                  first | (simp only [decide_eq_true_eq, Bool.false_eq_true, true_iff, false_iff]; omega) | (simp; omega)
              · have be2 : (xf != yf) = true := by simpa using e2
                go_wp2_with fail
                go_ret
                refine ⟨congrArg (fun b => Ending.returned (.bool b)) ?_, HBW⟩
                refine Bool.eq_iff_iff.2 (Iff.trans ?_ HL.out.symm)
                first | (simp only [decide_eq_true_eq, Bool.false_eq_true, true_iff, false_iff]; omega) | (simp; omega)
            · have be1 : (r1 != r2) = true := by simpa using e1
              go_wp2_with fail
              go_ret
              refine ⟨congrArg (fun b => Ending.returned (.bool b)) ?_, HBW⟩
              refine Bool.eq_iff_iff.2 (Iff.trans ?_ HL.out.symm)
              first | (simp only [decide_eq_true_eq, Bool.false_eq_true, true_iff, false_iff]; omega) | (simp; omega)
        · have bk : (ky == 0) = false := by simpa using hk
          have RY := Lib.hid r
          clear r
          go_upto_region 8 with fail
          go_cut [7, 8, 48] from 49 (fun va vb vc wx => va = .int .i64 (r1) ∧ vb = .int .i64 (r2) ∧ vc = .bool (r1 != r2) ∧ wx = wd)
          case first =>
            go_wp2_with fail
            go_meet
            exact ⟨by rw [RX.out], by rw [RY.out], by first | (rw [RX.out, RY.out]; done) | (rw [RX.out, RY.out]; rfl), hwd.symm⟩
          case rest =>
            obtain ⟨rfl, rfl, rfl, rfl⟩ := hcut
            clear RX RY
            by_cases e1 : r1 = r2
            · have be1 : (r1 != r2) = false := by simp [e1]
              by_cases e2 : xf = yf
              · have be2 : (xf != yf) = false := by simp [e2]
                by_cases e3 : xt = yt
                · have be3 : (xt != yt) = false := by simp [e3]
                  go_wp2_with fail
                  go_ret
                  refine ⟨congrArg (fun b => Ending.returned (.bool b)) ?_, HBW⟩
                  refine Bool.eq_iff_iff.2 (Iff.trans ?_ HL.out.symm)
                  first | (simp only [decide_eq_true_eq, Bool.false_eq_true, true_iff, false_iff]; omega) | (simp; omega)
                · have be3 : (xt != yt) = true := by simpa using e3
                  go_wp2_with fail
                  go_ret
                  refine ⟨congrArg (fun b => Ending.returned (.bool b)) ?_, HBW⟩
                  refine Bool.eq_iff_iff.2 (Iff.trans ?_ HL.out.symm)
                  first | (simp only [decide_eq_true_eq, Bool.false_eq_true, true_iff, false_iff]; omega) | (simp; omega)
              · have be2 : (xf != yf) = true := by simpa using e2
                go_wp2_with fail
                go_ret
                refine ⟨congrArg (fun b => Ending.returned (.bool b)) ?_, HBW⟩
                refine Bool.eq_iff_iff.2 (Iff.trans ?_ HL.out.symm)
                first | (simp only [decide_eq_true_eq, Bool.false_eq_true, true_iff, false_iff]; omega) | (simp; omega)
            · have be1 : (r1 != r2) = true := by simpa using e1
              go_wp2_with fail
              go_ret
              refine ⟨congrArg (fun b => Ending.returned (.bool b)) ?_, HBW⟩
              refine Bool.eq_iff_iff.2 (Iff.trans ?_ HL.out.symm)
              first | (simp only [decide_eq_true_eq, Bool.false_eq_true, true_iff, false_iff]; omega) | (simp; omega)
end
end Go.Proofs.YthjkdeocdhdkaaaGreat
/- Overlays, the reference: order. -/
namespace Go.Proofs.YthjkdeocdhdkaaaGreat
open Go.RowKit
set_option linter.unusedVariables false
set_option linter.unusedSimpArgs false
section
variable {w w' W : World} {x y : OverE} {p : Nat} {pr ev nx nm : Int} {v v' : Value} {A : Option Addr} {ps : List PropE} {l : List OverE}
structure OrdIn (w : World) (p : Nat) (pr : Int) (A : Option Addr) (l : List OverE) : Prop where
  cell : w.cell? ⟨p, 2, none⟩ = some (.int .i64 pr)
  lt : p < w.heap.size
  lies : RSl encO w A l
  ps : ∀ y ∈ l, RSl encP w y.A y.ps
  sorted : ∀ y ∈ l, SortedP y.ps ∧ y.ps.length ≤ 1000000
theorem OrdIn.up (h : OrdIn w p pr A l) (hb : Below w.heap.size w w') : OrdIn w' p pr A l :=
  ⟨(hb.cell (p := ⟨p, 2, none⟩) h.lt).trans h.cell, Nat.lt_of_lt_of_le h.lt hb.size, h.lies.up hb, fun y hy => (h.ps y hy).up hb, h.sorted⟩
theorem OrdIn.less (h : OrdIn w p pr A l) (hx : x ∈ l) (hy : y ∈ l) :
    Calls Tryz.prog 77 #[.pointer (some ⟨p, 0, none⟩), .agg (encO x).toArray, .agg (encO y).toArray] w fun e w' => e = .returned (.bool (lessD pr x.dat y.dat)) ∧ Below w.heap.size w w' :=
  r_less h.cell h.lt (h.ps x hx) (h.ps y hy) (h.sorted x hx).1 (h.sorted y hy).1 (h.sorted x hx).2 (h.sorted y hy).2
/-- The sorted list so far. -/
def OrdSt (w : World) (pr : Int) (l : List OverE) (j : Nat) (v : Value) (wz : World) : Prop :=
  ∃ Ls, ROwn encO 69 6 w.heap.size wz v Ls ∧ Below w.heap.size w wz ∧ Ls.map OverE.dat = sortI pr ((l.take j).map OverE.dat) ∧ (∀ y ∈ Ls, y ∈ l) ∧ Ls.length = j
theorem OrdSt.next {wz w9 : World} {Ls : List OverE} {j k : Nat} {v9 : Value} (hb : Below w.heap.size w wz) (hm : Ls.map OverE.dat = sortI pr ((l.take j).map OverE.dat)) (hin : ∀ y ∈ Ls, y ∈ l) (hl : Ls.length = j) (hx : l[j]? = some x)
    (hk : k = insP pr (Ls.map OverE.dat) x.dat) (h9 : ROwn encO 69 6 wz.heap.size w9 v9 (Ls.take k ++ [x] ++ Ls.drop k)) (b9 : Below wz.heap.size wz w9) : OrdSt w pr l (j + 1) v9 w9 := by
  refine ⟨_, h9.low hb.size, hb.trans (b9.mono hb.size), ?_, fun y hy => ?_, ?_⟩
  · have h1 : (l.map OverE.dat)[j]? = some x.dat := by rw [List.getElem?_map, hx]; rfl
    rw [List.map_take, sortI_step h1, ← List.map_take, ← hm]
    unfold insS
    rw [hk]
    simp
  · rw [List.append_assoc] at hy
    rcases List.mem_append.1 hy with h | h
    · exact hin y (List.mem_of_mem_take h)
    · rcases List.mem_cons.1 h with rfl | h
      · exact List.mem_of_getElem? hx
      · exact hin y (List.mem_of_mem_drop h)
  · have := insP_le (pr := pr) (Ls.map OverE.dat) x.dat
    rw [List.length_map] at this
    simp; omega
set_option maxRecDepth 100000 in
set_option maxHeartbeats 8000000 in
theorem r_order (h : OrdIn w p pr A l) (c : Nat) (hl : l.length ≤ 1000000) (hn : (l.map (fun y => y.dat.id)).Nodup) :
    Calls Tryz.prog 49 #[.pointer (some ⟨p, 0, none⟩), .slice A l.length c] w fun e w' => ∃ v', e = .returned v' ∧ ROwn encI 3 1 w.heap.size w' v' ((sortD pr (l.map OverE.dat)).map OverD.id) ∧ Below w.heap.size w w' := by
  have H := Lib.hid h
  have HN := Lib.hid hn
  clear h hn
  go_enter Tryz.func49, Tryz.ntmps49
  go_wp2_with fail
  go_loopw [5, 6] (fun vl vi wz => ∃ j : Nat, j ≤ l.length ∧ vi = .int .i64 j ∧ OrdSt w pr l j vl wz) (fun _ vi _ => l.length - (intOf vi).toNat)
  case atStart => exact ⟨0, by omega, rfl, [], ROwn.nil _ _, Below.refl _ _, rfl, by simp, rfl⟩
  case round =>
    obtain ⟨j, hj, rfl, Ls, hown, hbz, hm, hin, hLj⟩ := hrel
    obtain ⟨wz, rfl⟩ : ∃ x, x = wr := ⟨_, rfl⟩
    obtain ⟨Al, cl, hvl, hcl1, hcl2, hrs⟩ := hown.shape eltO
    subst hvl
    by_cases hlt : j < l.length
    · obtain ⟨x, hx⟩ : ∃ x, l[j]? = some x := ⟨_, List.getElem?_eq_getElem hlt⟩
      have hlt' : (j : Int) < l.length := by omega
      have HZ := Lib.hid (H.out.up hbz)
      have HX := Lib.hid hx
      have HOWN := Lib.hid hown
      have HBZ := Lib.hid hbz
      have HM := Lib.hid hm
      have HIN := Lib.hid hin
      have HLJ := Lib.hid hLj
      have HRS := Lib.hid hrs
      clear hx hown hbz hm hin hLj hrs
      go_upto_block 2 with fail
      go_cut [7] (fun vk wx => ∃ k : Nat, k = insP pr (Ls.map OverE.dat) x.dat ∧ vk = .int .i64 k ∧ Below wz.heap.size wz wx)
      case first =>
        go_wp2_with fail
        go_loopw [7] (fun vk wx => ∃ k : Nat, k ≤ Ls.length ∧ vk = .int .i64 k ∧ (∀ i y, k ≤ i → (Ls.map OverE.dat)[i]? = some y → lessD pr x.dat y = true) ∧ Below wz.heap.size wz wx) (fun vk _ => (intOf vk).toNat)
        case atStart => exact ⟨Ls.length, Nat.le_refl _, rfl, fun i y hi hy => (by have := (List.getElem?_eq_some_iff.1 hy).1; rw [List.length_map] at this; omega), Below.refl _ _⟩
        case round =>
          obtain ⟨k, hk, rfl, hles, hbx⟩ := hrel
          obtain ⟨wx, rfl⟩ : ∃ x, x = wr := ⟨_, rfl⟩
          by_cases hk0 : k = 0
          · subst hk0
            have hi : 0 = insP pr (Ls.map OverE.dat) x.dat := (insP_uniq (by omega) (fun j y h1 h2 => hles j y h1 h2) (fun y h => by omega)).symm
            go_upto_region 6 with fail
            refine wp_region_mixT wx.heap.size 15 (.one [0, 1, 2, 3, 4, 5, 6, 7, 8, 9, 10, 11, 12] 13 (.done [14])) (by kernel_rfl) (fun c d v a w h => by cases d <;> exact h) (by kernel_rfl) ?_
            simp only [wpMixT, pk_nil, pk_cons, pushAt_zero, pushAt_succ, List.drop_succ_cons, List.drop_zero]
            repeat (go_big_quiet_step (fail))
            refine wpQuiet_nil ?_
            go_wp2_with fail
            refine thenQ_normal ⟨⟨⟨_, (Below.refl _ wx).drew⟩, rfl⟩, ?_⟩
            repeat (go_big_quiet_step (fail))
            refine wpQuiet_nil ?_
            go_wp2_with fail
            go_meet
            exact ⟨0, hi, rfl, hbx.drew⟩
          · obtain ⟨k, rfl⟩ : ∃ k', k = k' + 1 := ⟨k - 1, by omega⟩
            obtain ⟨y, hy⟩ : ∃ y, Ls[k]? = some y := ⟨_, List.getElem?_eq_getElem (by omega)⟩
            have hH := HZ.out.up hbx
            have HC := Lib.hid (hH.up (Below.refl _ wx).drew |>.less (List.mem_of_getElem? HX.out) (HIN.out y (List.mem_of_getElem? hy)))
            obtain ⟨gx, ox, hAx, hgx, hcx⟩ := hH.lies.at_ eltO HX.out
            obtain ⟨gy, oy, hAy, hgy, hcy⟩ := (HRS.out.up hbx).at_ eltO hy
            have X0 : ∀ d : UpW wx.heap.size wx, d.w.cell? ⟨gx, ox + j * 6 + 0, none⟩ = some (.int .i64 x.id) := fun d => (d.up.cell (p := ⟨gx, ox + j * 6 + 0, none⟩) hgx).trans (hcx 0 _ rfl)
            have X1 : ∀ d : UpW wx.heap.size wx, d.w.cell? ⟨gx, ox + j * 6 + 1, none⟩ = some (.int .i64 x.f) := fun d => (d.up.cell (p := ⟨gx, ox + j * 6 + 1, none⟩) hgx).trans (hcx 1 _ rfl)
            have X2 : ∀ d : UpW wx.heap.size wx, d.w.cell? ⟨gx, ox + j * 6 + 2, none⟩ = some (.int .i64 x.t) := fun d => (d.up.cell (p := ⟨gx, ox + j * 6 + 2, none⟩) hgx).trans (hcx 2 _ rfl)
            have X3 : ∀ d : UpW wx.heap.size wx, d.w.cell? ⟨gx, ox + j * 6 + 3, none⟩ = some (.bool x.fr) := fun d => (d.up.cell (p := ⟨gx, ox + j * 6 + 3, none⟩) hgx).trans (hcx 3 _ rfl)
            have X4 : ∀ d : UpW wx.heap.size wx, d.w.cell? ⟨gx, ox + j * 6 + 4, none⟩ = some (.bool x.re) := fun d => (d.up.cell (p := ⟨gx, ox + j * 6 + 4, none⟩) hgx).trans (hcx 4 _ rfl)
            have X5 : ∀ d : UpW wx.heap.size wx, d.w.cell? ⟨gx, ox + j * 6 + 5, none⟩ = some (.slice x.A x.ps.length x.c) := fun d => (d.up.cell (p := ⟨gx, ox + j * 6 + 5, none⟩) hgx).trans (hcx 5 _ rfl)
            have Y0 : ∀ d : UpW wx.heap.size wx, d.w.cell? ⟨gy, oy + k * 6 + 0, none⟩ = some (.int .i64 y.id) := fun d => (d.up.cell (p := ⟨gy, oy + k * 6 + 0, none⟩) hgy).trans (hcy 0 _ rfl)
            have Y1 : ∀ d : UpW wx.heap.size wx, d.w.cell? ⟨gy, oy + k * 6 + 1, none⟩ = some (.int .i64 y.f) := fun d => (d.up.cell (p := ⟨gy, oy + k * 6 + 1, none⟩) hgy).trans (hcy 1 _ rfl)
            have Y2 : ∀ d : UpW wx.heap.size wx, d.w.cell? ⟨gy, oy + k * 6 + 2, none⟩ = some (.int .i64 y.t) := fun d => (d.up.cell (p := ⟨gy, oy + k * 6 + 2, none⟩) hgy).trans (hcy 2 _ rfl)
            have Y3 : ∀ d : UpW wx.heap.size wx, d.w.cell? ⟨gy, oy + k * 6 + 3, none⟩ = some (.bool y.fr) := fun d => (d.up.cell (p := ⟨gy, oy + k * 6 + 3, none⟩) hgy).trans (hcy 3 _ rfl)
            have Y4 : ∀ d : UpW wx.heap.size wx, d.w.cell? ⟨gy, oy + k * 6 + 4, none⟩ = some (.bool y.re) := fun d => (d.up.cell (p := ⟨gy, oy + k * 6 + 4, none⟩) hgy).trans (hcy 4 _ rfl)
            have Y5 : ∀ d : UpW wx.heap.size wx, d.w.cell? ⟨gy, oy + k * 6 + 5, none⟩ = some (.slice y.A y.ps.length y.c) := fun d => (d.up.cell (p := ⟨gy, oy + k * 6 + 5, none⟩) hgy).trans (hcy 5 _ rfl)
            simp only [← Nat.add_assoc, Nat.add_zero] at X0 X1 X2 X3 X4 X5 Y0 Y1 Y2 Y3 Y4 Y5
            have hk1 : (k : Int) < Ls.length := by omega
            have hkb : (k : Int) ≤ 1000000 := by have := HLJ.out; omega
            have hkw : wrap64 (k : Int) = k := IntWalk.wrap64_in _ (by omega)
            have hk2 : (0 : Int) ≤ (k : Int) := by omega
            have HBX := Lib.hid hbx
            have HLES := Lib.hid hles
            have HY := Lib.hid hy
            obtain ⟨xid, xf, xt, xfr, xre, xA, xc, xps, xg⟩ := x
            obtain ⟨yid, yf, yt, yfr, yre, yA, yc, yps, yg⟩ := y
            dsimp only at X0 X1 X2 X3 X4 X5 Y0 Y1 Y2 Y3 Y4 Y5
            clear hbx hles hy hcx hcy hH
            subst hAx hAy
            go_upto_region 6 with fail
            refine wp_region_mixT wx.heap.size 15 (.one [0, 1, 2, 3, 4, 5, 6, 7, 8, 9, 10, 11, 12] 13 (.done [14])) (by kernel_rfl) (fun c d v a w h => by cases d <;> exact h) (by kernel_rfl) ?_
            simp only [wpMixT, pk_nil, pk_cons, pushAt_zero, pushAt_succ, List.drop_succ_cons, List.drop_zero]
            repeat (go_big_quiet_step (fail))
            refine wpQuiet_nil ?_
            go_wp2_with fail
            refine HC.out.mono ?_
            rintro e w3 ⟨rfl, b3⟩
            have hb3 : Below wx.heap.size wx w3 := (Below.refl _ wx).drew.trans b3
            have HB3 := Lib.hid (HBX.out.trans (hb3.mono HBX.out.size))
            clear X0 X1 X2 X3 X4 X5 Y0 Y1 Y2 Y3 Y4 Y5
            cases hlD : lessD pr (OverE.dat ⟨xid, xf, xt, xfr, xre, xA, xc, xps, xg⟩) (OverE.dat ⟨yid, yf, yt, yfr, yre, yA, yc, yps, yg⟩) with
            | true =>
              have HD := Lib.hid hlD
              clear hlD
              go_wp2_with fail
              refine thenQ_normal ⟨⟨⟨_, hb3⟩, rfl⟩, ?_⟩
              repeat (go_big_quiet_step (fail))
              refine wpQuiet_nil ?_
              go_wp2_with fail
              refine ⟨⟨k, by omega, rfl, fun i y hi hy => ?_, HB3.out⟩, by simp [intOf]⟩
              rcases Nat.lt_or_ge k i with h | h
              · exact HLES.out i y h hy
              · obtain rfl : i = k := by omega
                rw [List.getElem?_map, HY.out] at hy
                cases hy
                exact HD.out
            | false =>
              have HD := Lib.hid hlD
              clear hlD
              go_wp2_with fail
              refine thenQ_normal ⟨⟨⟨_, hb3⟩, rfl⟩, ?_⟩
              repeat (go_big_quiet_step (fail))
              refine wpQuiet_nil ?_
              go_wp2_with fail
              go_meet
              refine ⟨k + 1, (insP_uniq (by rw [List.length_map]; omega) HLES.out fun y _ hy => ?_).symm, rfl, HB3.out⟩
              rw [Nat.add_sub_cancel, List.getElem?_map, HY.out] at hy
              cases hy
              exact HD.out
      case rest =>
        obtain ⟨k, hk, rfl, hbk⟩ := hcut
        have hkl : k ≤ Ls.length := by have := insP_le (pr := pr) (Ls.map OverE.dat) x.dat; rw [List.length_map] at this; omega
        have hbz := HBZ.out.trans (hbk.mono HBZ.out.size)
        have hH := HZ.out.up hbk
        have hR := HRS.out.up hbk
        obtain ⟨wq, rfl⟩ : ∃ wq : World, wq = wc := ⟨_, rfl⟩
        obtain ⟨a7, wa7, a8, wa8, a9, wa9, ra7, ra8, ra9, oa9, ba7, ba8, ba9⟩ := insA (T := 39) (x := x) eltO (by omega) hR hcl1 hkl (by have := HLJ.out; omega)
        obtain ⟨b7, wb7, b8, wb8, b9, wb9, rb7, rb8, rb9, ob9, bb7, bb8, bb9⟩ := insB (T := 39) (x := x) eltO (by omega) hR hcl1 hkl (by have := HLJ.out; omega)
        obtain ⟨c7, wc7, c8, wc8, c9, wc9, rc7, rc8, rc9, oc9, bc7, bc8, bc9⟩ := insC (T := 39) (x := x) eltO (by omega) hR hcl1 hkl (by have := HLJ.out; omega)
        unfold AppRun at ra7 ra8 ra9 rb7 rb8 rb9 rc7 rc8 rc9
        unfold tailA at ra9 rb9 rc9
        obtain ⟨gx, ox, hAx, hgx, hcx⟩ := hH.lies.at_ eltO HX.out
        have X0 : ∀ d : UpW wq.heap.size wq, d.w.cell? ⟨gx, ox + j * 6 + 0, none⟩ = some (.int .i64 x.id) := fun d => (d.up.cell (p := ⟨gx, ox + j * 6 + 0, none⟩) hgx).trans (hcx 0 _ rfl)
        have X1 : ∀ d : UpW wq.heap.size wq, d.w.cell? ⟨gx, ox + j * 6 + 1, none⟩ = some (.int .i64 x.f) := fun d => (d.up.cell (p := ⟨gx, ox + j * 6 + 1, none⟩) hgx).trans (hcx 1 _ rfl)
        have X2 : ∀ d : UpW wq.heap.size wq, d.w.cell? ⟨gx, ox + j * 6 + 2, none⟩ = some (.int .i64 x.t) := fun d => (d.up.cell (p := ⟨gx, ox + j * 6 + 2, none⟩) hgx).trans (hcx 2 _ rfl)
        have X3 : ∀ d : UpW wq.heap.size wq, d.w.cell? ⟨gx, ox + j * 6 + 3, none⟩ = some (.bool x.fr) := fun d => (d.up.cell (p := ⟨gx, ox + j * 6 + 3, none⟩) hgx).trans (hcx 3 _ rfl)
        have X4 : ∀ d : UpW wq.heap.size wq, d.w.cell? ⟨gx, ox + j * 6 + 4, none⟩ = some (.bool x.re) := fun d => (d.up.cell (p := ⟨gx, ox + j * 6 + 4, none⟩) hgx).trans (hcx 4 _ rfl)
        have X5 : ∀ d : UpW wq.heap.size wq, d.w.cell? ⟨gx, ox + j * 6 + 5, none⟩ = some (.slice x.A x.ps.length x.c) := fun d => (d.up.cell (p := ⟨gx, ox + j * 6 + 5, none⟩) hgx).trans (hcx 5 _ rfl)
        simp only [← Nat.add_assoc, Nat.add_zero] at X0 X1 X2 X3 X4 X5
        have OA := Lib.hid oa9
        have OB := Lib.hid ob9
        have OC := Lib.hid oc9
        have HBZ2 := Lib.hid hbz
        have HK := Lib.hid hk
        have hq1 : (k : Int) ≤ cl := by omega
        have hq2 : (k : Int) ≤ Ls.length := by omega
        have hq3 : (0 : Int) ≤ k := by omega
        have hq4 : (j : Int) < l.length := hlt'
        clear oa9 ob9 oc9 hbz hk hH hR hcx
        obtain ⟨xid, xf, xt, xfr, xre, xA, xc, xps, xg⟩ := x
        dsimp only at X0 X1 X2 X3 X4 X5
        subst hAx
        by_cases hcp : cl = k
        · subst hcp
          rw [if_pos rfl, Nat.sub_self, show Ls.length - cl = 0 by omega] at ra9 rb9 rc9
          have RA7 := Lib.hid ra7
          have RA8 := Lib.hid ra8
          have RA9 := Lib.hid ra9
          have RB7 := Lib.hid rb7
          have RB8 := Lib.hid rb8
          have RB9 := Lib.hid rb9
          have RC7 := Lib.hid rc7
          have RC8 := Lib.hid rc8
          have RC9 := Lib.hid rc9
          clear ra7 ra8 ra9 rb7 rb8 rb9 rc7 rc8 rc9
          go_upto_region 8 with fail
          refine wp_region_mixT wq.heap.size 16 (.two [1, 2, 3, 5, 6, 7, 8, 11, 12, 13] 0 (.two [] 4 (.one [] 9 (.one [] 10 (.one [] 14 (.done [15])))) 9 (.one [] 4 (.one [] 10 (.one [] 14 (.done [15]))))) 9 (.one [] 0 (.one [] 4 (.one [] 10 (.one [] 14 (.done [15])))))) (by kernel_rfl) (fun c d v a w h => by cases d <;> exact h) (by kernel_rfl) ?_
          simp only [wpMixT, pk_nil, pk_cons, pushAt_zero, pushAt_succ, List.drop_succ_cons, List.drop_zero]
          repeat (go_big_quiet_step (fail))
          refine wpQuiet_nil ?_
          clear X0 X1 X2 X3 X4 X5
          have hb1 : ∀ o, Below wq.heap.size wq (wq.alloc o).drew := fun o => (below1 wq o).drew
          have hb2 : ∀ o o', Below wq.heap.size wq ((wq.alloc o).alloc o').drew := fun o o' => (up2 (below1 wq o) (below1 _ o')).drew
          refine ⟨?_, ?_⟩
          · go_wp2_with fail
            refine thenQ_normal ⟨⟨⟨_, hb1 _⟩, rfl⟩, ?_⟩
            refine wpQuiet_nil ?_
            refine ⟨?_, ?_⟩
            · go_wp2_with (at_builtin; refine wpList_app_run rfl _ _ _ rfl rfl rfl RA7.out ?_)
              refine thenQ_normal ⟨⟨⟨_, ba7⟩, rfl⟩, ?_⟩
              refine wpQuiet_nil ?_
              go_wp2_with fail
              refine thenQ_normal ⟨⟨⟨_, ba7.alloc ba7.size _⟩, rfl⟩, ?_⟩
              refine wpQuiet_nil ?_
              go_wp2_with (at_builtin; refine wpList_app_run rfl _ _ _ rfl rfl rfl RA8.out ?_)
              refine thenQ_normal ⟨⟨⟨_, ba8⟩, rfl⟩, ?_⟩
              refine wpQuiet_nil ?_
              go_wp2_with (at_builtin; refine wpList_app_run rfl _ _ _ rfl rfl rfl RA9.out ?_)
              refine thenQ_normal ⟨⟨⟨_, ba9⟩, rfl⟩, ?_⟩
              repeat (go_big_quiet_step (fail))
              refine wpQuiet_nil ?_
              go_wp2_with fail
              exact ⟨⟨j + 1, by omega, by go_num, OrdSt.next HBZ2.out HM.out HIN.out HLJ.out HX.out HK.out OA.out ba9⟩, by simp [intOf]; omega⟩
            · go_wp2_with fail
              refine thenQ_normal ⟨⟨⟨_, hb2 _ _⟩, rfl⟩, ?_⟩
              refine wpQuiet_nil ?_
              go_wp2_with (at_builtin; refine wpList_app_run rfl _ _ _ rfl rfl rfl RB7.out ?_)
              refine thenQ_normal ⟨⟨⟨_, bb7⟩, rfl⟩, ?_⟩
              refine wpQuiet_nil ?_
              go_wp2_with (at_builtin; refine wpList_app_run rfl _ _ _ rfl rfl rfl RB8.out ?_)
              refine thenQ_normal ⟨⟨⟨_, bb8⟩, rfl⟩, ?_⟩
              refine wpQuiet_nil ?_
              go_wp2_with (at_builtin; refine wpList_app_run rfl _ _ _ rfl rfl rfl RB9.out ?_)
              refine thenQ_normal ⟨⟨⟨_, bb9⟩, rfl⟩, ?_⟩
              repeat (go_big_quiet_step (fail))
              refine wpQuiet_nil ?_
              go_wp2_with fail
              exact ⟨⟨j + 1, by omega, by go_num, OrdSt.next HBZ2.out HM.out HIN.out HLJ.out HX.out HK.out OB.out bb9⟩, by simp [intOf]; omega⟩
          · go_wp2_with fail
            refine thenQ_normal ⟨⟨⟨_, hb1 _⟩, rfl⟩, ?_⟩
            refine wpQuiet_nil ?_
            go_wp2_with fail
            refine thenQ_normal ⟨⟨⟨_, hb2 _ _⟩, rfl⟩, ?_⟩
            refine wpQuiet_nil ?_
            go_wp2_with (at_builtin; refine wpList_app_run rfl _ _ _ rfl rfl rfl RC7.out ?_)
            refine thenQ_normal ⟨⟨⟨_, bc7⟩, rfl⟩, ?_⟩
            refine wpQuiet_nil ?_
            go_wp2_with (at_builtin; refine wpList_app_run rfl _ _ _ rfl rfl rfl RC8.out ?_)
            refine thenQ_normal ⟨⟨⟨_, bc8⟩, rfl⟩, ?_⟩
            refine wpQuiet_nil ?_
            go_wp2_with (at_builtin; refine wpList_app_run rfl _ _ _ rfl rfl rfl RC9.out ?_)
            refine thenQ_normal ⟨⟨⟨_, bc9⟩, rfl⟩, ?_⟩
            repeat (go_big_quiet_step (fail))
            refine wpQuiet_nil ?_
            go_wp2_with fail
            exact ⟨⟨j + 1, by omega, by go_num, OrdSt.next HBZ2.out HM.out HIN.out HLJ.out HX.out HK.out OC.out bc9⟩, by simp [intOf]; omega⟩
        · rw [if_neg hcp] at ra9 rb9 rc9
          have hcp' : (cl == k) = false := by simpa using hcp
          have RA7 := Lib.hid ra7
          have RA8 := Lib.hid ra8
          have RA9 := Lib.hid ra9
          have RB7 := Lib.hid rb7
          have RB8 := Lib.hid rb8
          have RB9 := Lib.hid rb9
          have RC7 := Lib.hid rc7
          have RC8 := Lib.hid rc8
          have RC9 := Lib.hid rc9
          clear ra7 ra8 ra9 rb7 rb8 rb9 rc7 rc8 rc9
          go_upto_region 8 with fail
          refine wp_region_mixT wq.heap.size 16 (.two [1, 2, 3, 5, 6, 7, 8, 11, 12, 13] 0 (.two [] 4 (.one [] 9 (.one [] 10 (.one [] 14 (.done [15])))) 9 (.one [] 4 (.one [] 10 (.one [] 14 (.done [15]))))) 9 (.one [] 0 (.one [] 4 (.one [] 10 (.one [] 14 (.done [15])))))) (by kernel_rfl) (fun c d v a w h => by cases d <;> exact h) (by kernel_rfl) ?_
          simp only [wpMixT, pk_nil, pk_cons, pushAt_zero, pushAt_succ, List.drop_succ_cons, List.drop_zero]
          repeat (go_big_quiet_step (fail))
          refine wpQuiet_nil ?_
          clear X0 X1 X2 X3 X4 X5
          have hb1 : ∀ o, Below wq.heap.size wq (wq.alloc o).drew := fun o => (below1 wq o).drew
          have hb2 : ∀ o o', Below wq.heap.size wq ((wq.alloc o).alloc o').drew := fun o o' => (up2 (below1 wq o) (below1 _ o')).drew
          refine ⟨?_, ?_⟩
          · go_wp2_with fail
            refine thenQ_normal ⟨⟨⟨_, hb1 _⟩, rfl⟩, ?_⟩
            refine wpQuiet_nil ?_
            refine ⟨?_, ?_⟩
            · go_wp2_with (at_builtin; refine wpList_app_run rfl _ _ _ rfl rfl rfl RA7.out ?_)
              refine thenQ_normal ⟨⟨⟨_, ba7⟩, rfl⟩, ?_⟩
              refine wpQuiet_nil ?_
              go_wp2_with fail
              refine thenQ_normal ⟨⟨⟨_, ba7.alloc ba7.size _⟩, rfl⟩, ?_⟩
              refine wpQuiet_nil ?_
              go_wp2_with (at_builtin; refine wpList_app_run rfl _ _ _ rfl rfl rfl RA8.out ?_)
              refine thenQ_normal ⟨⟨⟨_, ba8⟩, rfl⟩, ?_⟩
              refine wpQuiet_nil ?_
              go_wp2_with (at_builtin; refine wpList_app_run rfl _ _ _ rfl rfl rfl RA9.out ?_)
              refine thenQ_normal ⟨⟨⟨_, ba9⟩, rfl⟩, ?_⟩
              repeat (go_big_quiet_step (fail))
              refine wpQuiet_nil ?_
              go_wp2_with fail
              exact ⟨⟨j + 1, by omega, by go_num, OrdSt.next HBZ2.out HM.out HIN.out HLJ.out HX.out HK.out OA.out ba9⟩, by simp [intOf]; omega⟩
            · go_wp2_with fail
              refine thenQ_normal ⟨⟨⟨_, hb2 _ _⟩, rfl⟩, ?_⟩
              refine wpQuiet_nil ?_
              go_wp2_with (at_builtin; refine wpList_app_run rfl _ _ _ rfl rfl rfl RB7.out ?_)
              refine thenQ_normal ⟨⟨⟨_, bb7⟩, rfl⟩, ?_⟩
              refine wpQuiet_nil ?_
              go_wp2_with (at_builtin; refine wpList_app_run rfl _ _ _ rfl rfl rfl RB8.out ?_)
              refine thenQ_normal ⟨⟨⟨_, bb8⟩, rfl⟩, ?_⟩
              refine wpQuiet_nil ?_
              go_wp2_with (at_builtin; refine wpList_app_run rfl _ _ _ rfl rfl rfl RB9.out ?_)
              refine thenQ_normal ⟨⟨⟨_, bb9⟩, rfl⟩, ?_⟩
              repeat (go_big_quiet_step (fail))
              refine wpQuiet_nil ?_
              go_wp2_with fail
              exact ⟨⟨j + 1, by omega, by go_num, OrdSt.next HBZ2.out HM.out HIN.out HLJ.out HX.out HK.out OB.out bb9⟩, by simp [intOf]; omega⟩
          · go_wp2_with fail
            refine thenQ_normal ⟨⟨⟨_, hb1 _⟩, rfl⟩, ?_⟩
            refine wpQuiet_nil ?_
            go_wp2_with fail
            refine thenQ_normal ⟨⟨⟨_, hb2 _ _⟩, rfl⟩, ?_⟩
            refine wpQuiet_nil ?_
            go_wp2_with (at_builtin; refine wpList_app_run rfl _ _ _ rfl rfl rfl RC7.out ?_)
            refine thenQ_normal ⟨⟨⟨_, bc7⟩, rfl⟩, ?_⟩
            refine wpQuiet_nil ?_
            go_wp2_with (at_builtin; refine wpList_app_run rfl _ _ _ rfl rfl rfl RC8.out ?_)
            refine thenQ_normal ⟨⟨⟨_, bc8⟩, rfl⟩, ?_⟩
            refine wpQuiet_nil ?_
            go_wp2_with (at_builtin; refine wpList_app_run rfl _ _ _ rfl rfl rfl RC9.out ?_)
            refine thenQ_normal ⟨⟨⟨_, bc9⟩, rfl⟩, ?_⟩
            repeat (go_big_quiet_step (fail))
            refine wpQuiet_nil ?_
            go_wp2_with fail
            exact ⟨⟨j + 1, by omega, by go_num, OrdSt.next HBZ2.out HM.out HIN.out HLJ.out HX.out HK.out OC.out bc9⟩, by simp [intOf]; omega⟩
    · obtain rfl : j = l.length := by omega
      rw [List.take_of_length_le (Nat.le_refl _)] at hm
      have hsort : Ls.map OverE.dat = sortD pr (l.map OverE.dat) := hm.trans (sortI_eq (by rw [List.map_map]; exact HN.out))
      have HSO := Lib.hid hsort
      have HBZ := Lib.hid hbz
      have HRS := Lib.hid hrs
      have hL1 : Ls.length ≤ 1000000 := by omega
      clear hm hsort hown hin hLj hrs hbz
      go_wp2_with fail
      go_loopw [8, 9] (fun vl vi wx => ∃ i : Nat, i ≤ Ls.length ∧ vi = .int .i64 i ∧ ROwn encI 3 1 wz.heap.size wx vl ((Ls.take i).map OverE.id) ∧ Below wz.heap.size wz wx) (fun _ vi _ => Ls.length - (intOf vi).toNat)
      case atStart => exact ⟨0, by omega, rfl, ROwn.nil _ _, Below.refl _ _⟩
      case round =>
        obtain ⟨i, hi, rfl, hO, hbx⟩ := hrel
        obtain ⟨wx, rfl⟩ : ∃ x, x = wr := ⟨_, rfl⟩
        by_cases hlt2 : i < Ls.length
        · obtain ⟨y, hy⟩ : ∃ y, Ls[i]? = some y := ⟨_, List.getElem?_eq_getElem hlt2⟩
          obtain ⟨g, o, hAe, hg, hc⟩ := (HRS.out.up hbx).at_ eltO hy
          have k0 := hc 0 _ rfl
          simp only [← Nat.add_assoc, Nat.add_zero] at k0
          have hi2 : (i : Int) < Ls.length := by omega
          have hBw : wz.heap.size ≤ wx.heap.size := hbx.size
          obtain ⟨v2, w2, happ, hown2, hb2, _, _⟩ := append_elem eltI (hO.low (Nat.le_refl _)) hBw y.id (by simp; omega) (by omega)
          have HP := Lib.hid happ
          have HO2 := Lib.hid hown2
          have HY := Lib.hid hy
          have HB2 := Lib.hid (hbx.trans hb2)
          obtain ⟨yid, yf, yt, yfr, yre, yA, yc, yps, yg⟩ := y
          dsimp only at k0 HP HO2
          clear hy hc happ hown2 hO
          subst hAe
          go_wp2_with (at_builtin; refine wpList_app_run rfl _ _ _ rfl rfl rfl HP.out ?_)
          refine ⟨⟨i + 1, by omega, by go_num, ?_, HB2.out⟩, by simp [intOf]; omega⟩
          rw [List.take_add_one, HY.out, Option.toList_some, List.map_append]
          exact HO2.out
        · obtain rfl : i = Ls.length := by omega
          rw [List.take_of_length_le (Nat.le_refl _)] at hO
          have HF := Lib.hid hO
          have HBX := Lib.hid hbx
          clear hO hbx
          go_wp2_with fail
          go_ret
          refine ⟨_, rfl, ?_, HBZ.out.trans (HBX.out.mono HBZ.out.size)⟩
          rw [← HSO.out, List.map_map]
          exact HF.out.low HBZ.out.size
end
end Go.Proofs.YthjkdeocdhdkaaaGreat
/- Overlays, the reference: At. -/
namespace Go.Proofs.YthjkdeocdhdkaaaGreat
open Go.RowKit
set_option linter.unusedVariables false
set_option linter.unusedSimpArgs false
section
variable {w w' W : World} {x y : OverE} {D : List OverD} {M : List OverE} {p : Nat} {pr ev nx nm : Int} {v v' : Value} {A : Option Addr}
set_option maxRecDepth 100000 in
set_option maxHeartbeats 4000000 in
theorem r_at (h : RefAt w p pr ev v M nx) (hs : ∀ y ∈ M, SortedP y.ps ∧ y.ps.length ≤ 1000000) (hn : (M.map (fun y => y.dat.id)).Nodup) (hl : M.length ≤ 1000000) (at_ : Int) :
    Calls Tryz.prog 15 #[.pointer (some ⟨p, 0, none⟩), .int .i64 at_] w (IsPost w (atI pr (M.map OverE.dat) at_)) := by
  obtain ⟨A, c, hv, hc1, hc2, hr⟩ := h.own.shape eltO
  subst hv
  have H := Lib.hid h
  have HR := Lib.hid hr
  have HS := Lib.hid hs
  have HN := Lib.hid hn
  have hplt := h.plt
  have c0 := h.cell 0 _ rfl
  clear h hr hs hn
  go_enter Tryz.func15, Tryz.ntmps15
  go_wp2_with fail
  go_loopw [5, 6] (fun vl vi wz => ∃ j : Nat, j ≤ M.length ∧ vi = .int .i64 j ∧ ROwn encO 69 6 w.heap.size wz vl ((M.take j).filter (fun y => covB at_ y.dat)) ∧ Below w.heap.size w wz) (fun _ vi _ => M.length - (intOf vi).toNat)
  case atStart => exact ⟨0, by omega, rfl, ROwn.nil _ _, Below.refl _ _⟩
  case round =>
    obtain ⟨j, hj, rfl, hown, hbz⟩ := hrel
    obtain ⟨wz, rfl⟩ : ∃ x, x = wr := ⟨_, rfl⟩
    have hcell := (hbz.cell (p := ⟨p, 0, none⟩) hplt).trans c0
    by_cases hlt : j < M.length
    · obtain ⟨y, hy⟩ : ∃ y, M[j]? = some y := ⟨_, List.getElem?_eq_getElem hlt⟩
      have hlt' : (j : Int) < M.length := by omega
      obtain ⟨g, o, hAe, hg, hc⟩ := (HR.out.up hbz).at_ eltO hy
      have k0 := hc 0 _ rfl
      have k1 := hc 1 _ rfl
      have k2 := hc 2 _ rfl
      have k3 := hc 3 _ rfl
      have k4 := hc 4 _ rfl
      have k5 := hc 5 _ rfl
      simp only [← Nat.add_assoc, Nat.add_zero] at k0 k1 k2 k3 k4 k5
      have HTK : (M.take (j + 1)).filter (fun y => covB at_ y.dat) = (M.take j).filter (fun y => covB at_ y.dat) ++ (if covB at_ y.dat then [y] else []) := by
        rw [List.take_add_one, hy, Option.toList_some, List.filter_append]; simp only [List.filter_cons, List.filter_nil]
      obtain ⟨v2, w2, happ, hown2, hb2, _, _⟩ := append_elem eltO hown hbz.size y (by have := List.length_filter_le (fun y : OverE => covB at_ y.dat) (M.take j); simp at this ⊢; omega) (by omega)
      have HTK := Lib.hid HTK
      have HO := Lib.hid hown
      have HB := Lib.hid hbz
      have HP := Lib.hid happ
      have HO2 := Lib.hid hown2
      have HB2 := Lib.hid (hbz.trans hb2)
      obtain ⟨yid, yf, yt, yfr, yre, yA, yc, yps, yg⟩ := y
      dsimp only at k0 k1 k2 k3 k4 k5 HP HO2
      clear hy hc happ hown2 hown hbz
      subst hAe
      by_cases h1 : yf ≤ at_
      · by_cases h2 : at_ < yt
        · have hcv : covB at_ (OverE.dat ⟨yid, yf, yt, yfr, yre, yA, yc, yps, yg⟩) = true := by simp [covB, OverE.dat, h1, h2]
          rw [hcv, if_pos rfl] at HTK
          clear hcv
          go_wp2_with (at_builtin; refine wpList_app_run rfl _ _ _ rfl rfl rfl HP.out ?_)
          exact ⟨⟨j + 1, by omega, by go_num, by rw [HTK.out]; exact HO2.out, HB2.out⟩, by simp [intOf]; omega⟩
        · have hcv : covB at_ (OverE.dat ⟨yid, yf, yt, yfr, yre, yA, yc, yps, yg⟩) = false := by simp [covB, OverE.dat, h2]
          rw [hcv, if_neg (by decide), List.append_nil] at HTK
          clear hcv
          go_wp2_with fail
          exact ⟨⟨j + 1, by omega, by go_num, by rw [HTK.out]; exact HO.out, HB.out⟩, by simp [intOf]; omega⟩
      · have hcv : covB at_ (OverE.dat ⟨yid, yf, yt, yfr, yre, yA, yc, yps, yg⟩) = false := by simp [covB, OverE.dat, h1]
        rw [hcv, if_neg (by decide), List.append_nil] at HTK
        clear hcv
        go_wp2_with fail
        exact ⟨⟨j + 1, by omega, by go_num, by rw [HTK.out]; exact HO.out, HB.out⟩, by simp [intOf]; omega⟩
    · obtain rfl : j = M.length := by omega
      rw [List.take_of_length_le (Nat.le_refl _)] at hown
      have hfm : (M.filter (fun y => covB at_ y.dat)).map OverE.dat = (M.map OverE.dat).filter (covB at_) := by rw [List.filter_map]; rfl
      have hsub : ∀ y ∈ M.filter (fun y => covB at_ y.dat), y ∈ M := fun y hy => (List.mem_filter.1 hy).1
      have hfl : (M.filter (fun y => covB at_ y.dat)).length ≤ 1000000 := Nat.le_trans (List.length_filter_le _ _) hl
      have hnd : ((M.filter (fun y => covB at_ y.dat)).map (fun y => y.dat.id)).Nodup := (List.filter_sublist.map _).nodup HN.out
      obtain ⟨Al, cl, hvl, _, _, hrl⟩ := hown.shape eltO
      have hwz := H.out.up hbz
      have HO := Lib.hid (r_order (w := wz) (p := p) (pr := pr) (A := Al) ⟨hwz.cell 2 _ rfl, hwz.plt, hrl, fun y hy => hwz.ps y (hsub y hy), fun y hy => HS.out y (hsub y hy)⟩ cl hfl hnd)
      rw [hfm] at HO
      have HBZ := Lib.hid hbz
      subst hvl
      clear hown hfm hsub hfl hnd hrl hwz hbz
      go_wp2_with fail
      refine HO.out.mono ?_
      rintro e w2 ⟨v2, rfl, ho2, hb2⟩
      go_wp2_with fail
      go_ret
      exact ⟨_, rfl, ho2.low HBZ.out.size, HBZ.out.trans (hb2.mono HBZ.out.size)⟩
end
end Go.Proofs.YthjkdeocdhdkaaaGreat
