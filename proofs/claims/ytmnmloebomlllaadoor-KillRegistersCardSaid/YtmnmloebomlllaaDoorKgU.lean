/- copyistlaw25.KillRegisters: the walk. -/
import Derived.Test.YtmnmloebomlllaaDoorKgT
namespace Go.Proofs.YtmnmloebomlllaaDoor
open Go.RowKit
set_option linter.unusedVariables false
set_option linter.unusedSimpArgs false
section
variable {w w' : World} {b bm bo N : Nat} {m l : List (Int × Reg)} {v : Value}
theorem GetPost.con {o o' : Option Con} {e : Ending} (h : GetPost w o e w') (he : o = o') : GetPost w o' e w' := he ▸ h
theorem get_con (h : RegsAt w b bm m) (c : Int) : Calls Tryd.prog 26 #[.pointer (some ⟨b, 0, none⟩), .int .i64 c] w (GetPost w (lookM (conM m) c)) := by
  rw [lookM_con]; exact get_any h c
theorem rget_con (h : RefR w bo v l) (c : Int) (hl : l.length ≤ 1000000) : Calls Tryd.prog 31 #[.pointer (some ⟨bo, 0, none⟩), .int .i64 c] w (GetPost w (lookM (conM l) c)) := by
  rw [lookM_con]; exact rget_any h c hl
theorem con_rows (h : RegsAt w b bm m) (c : Int) : ((lookM (conM m) c).getD zeroC).rows.length ≤ 1000000 := by
  rw [lookM_con]
  cases hx : lookM m c with
  | none => simp [zeroC]
  | some x => exact (h.ok _ (lookM_mem hx)).l
theorem Only.cell {S : Nat → Prop} {a b : World} (h : Only S a b) {k o : Nat} (hk : k < a.heap.size) (hs : ¬ S k) : b.cell? ⟨k, o, none⟩ = a.cell? ⟨k, o, none⟩ := World.cell?_of_block (w := a) (a := ⟨k, o, none⟩) (h.block k hk hs)
theorem Only.fz {S : Nat → Prop} {a b : World} (h : Only S a b) {k o : Nat} (hk : k < a.heap.size) (hs : ¬ S k) : b.frozen? ⟨k, o, none⟩ = a.frozen? ⟨k, o, none⟩ := World.frozen?_of_block (w := a) (a := ⟨k, o, none⟩) (h.block k hk hs)
theorem RegIn.fresh {S : Nat → Prop} {r : Reg} (h : RegIn w r) (ho : Only S w w') {n : Nat} (hf : ∀ g, regBlk r g → n ≤ g) (hs : ∀ g, S g → g < n) : RegIn w' r := h.only ho (fun g hg e => by have := hf g hg; have := hs g e; omega)
theorem bne_self (b : Bool) : (b != b) = false := by cases b <;> rfl
set_option maxRecDepth 100000 in
set_option maxHeartbeats 8000000 in
theorem regs_good (A : Option Addr) (cap : Nat) (L : List CallE) (cc : Int) (w : World) (h : RSl encC w A L) (hl : L.length ≤ 40) (hok : ∀ a ∈ L, CallOk w a) (hfew : ∀ w1, Below w.heap.size w w1 → Calls Tryd.prog 23 #[.slice A L.length cap] w1 fun e w' => e = .returned (.bool true) ∧ w1 = w') (hT : Tabs w.heap.size w) :
    Calls Tryd.prog 5 #[.slice A L.length cap, .int .i64 cc] w fun e w' => e = .returned (.bool true) ∧ Below w.heap.size w w' := by
  have HLV := Lib.hid (lives_true hT (Nat.le_refl _))
  have HFW := Lib.hid hfew
  have HPK := Lib.hid (fun (n : Int) (w1 : World) => pick_any n 6 w1 (by omega) (by omega))
  have HH := Lib.hid h
  have HOK := Lib.hid hok
  clear h hok hfew
  go_enter Tryd.func5, Tryd.ntmps5
  go_wp2_with fail
  refine HLV.out.mono ?_
  rintro e wa ⟨rfl, hba⟩
  go_wp2_with fail
  refine (HFW.out wa hba).mono ?_
  rintro e w' ⟨rfl, rfl⟩
  go_wp2_with fail
  refine (regs_new _).mono ?_
  rintro e wb ⟨b, bm, rfl, hRb, hb1, hb2, hbb⟩
  go_wp2_with fail
  refine (rregs_new _).mono ?_
  rintro e wc ⟨rfl, hRc, hbc⟩
  have hT0 : Two w.heap.size wc b bm [] wb.heap.size (.slice none 0 0) [] := ⟨hRb.up hbc, hRc, Rel.nil, by have := hRb.lt; omega, by have := hRb.im.lt; omega, by simp [Value.ownBlock], by simp [Value.ownBlock], fun g ⟨p, hp, _⟩ => by simp at hp, fun g ⟨p, hp, _⟩ => by simp at hp,
    Nat.le_trans hba.size hb1, Nat.le_trans hba.size hb2, Nat.le_trans hba.size hbb.size, fun g hg => by simp [Value.ownBlock] at hg⟩
  have HT0 := Lib.hid hT0
  have HB0 := Lib.hid (up2 (up2 hba hbb) hbc)
  generalize wb.heap.size = bo at *
  clear hRb hb1 hb2 hbb hRc hbc hT0 hba
  go_wp2_with fail
  go_loopw [7] (fun vi wr => ∃ (k : Nat) (m : List (Int × Reg)) (v : Value) (l : List (Int × Reg)), k ≤ L.length ∧ vi = .int .i64 k ∧ Two w.heap.size wr b bm m bo v l ∧ l.length ≤ k ∧ Below w.heap.size w wr) (fun vi _ => L.length - (intOf vi).toNat)
  case atStart => exact ⟨0, [], _, [], by omega, rfl, HT0.out, by simp, HB0.out⟩
  case round =>
    obtain ⟨k, m, v, l, hk, rfl, T, hll, hbel⟩ := hrel
    by_cases hlt : k < L.length
    · obtain ⟨a, hx⟩ : ∃ a, L[k]? = some a := ⟨_, List.getElem?_eq_getElem hlt⟩
      have ha := HOK.out a (List.mem_of_getElem? hx)
      obtain ⟨g, o, rfl, hg, hc⟩ := HH.out.at_ eltC hx
      have e0 := hc 0 _ rfl
      have e1 := hc 1 _ rfl
      have e2 := hc 2 _ rfl
      have e3 := hc 3 _ rfl
      have e4 := hc 4 _ rfl
      have e5 := hc 5 _ rfl
      have e6 := hc 6 _ rfl
      have e7 := hc 7 _ rfl
      simp only [← Nat.add_assoc] at e0 e1 e2 e3 e4 e5 e6 e7
      simp only [Nat.add_zero] at e0
      have hlt' : (k : Int) < L.length := by omega
      clear hc hx
      have hp := pick_pos a.kind 6 (by omega)
      obtain hpa | hpa | hpa | hpa | hpa | hpa : pickI a.kind 6 = 0 ∨ pickI a.kind 6 = 1 ∨ pickI a.kind 6 = 2 ∨ pickI a.kind 6 = 3 ∨ pickI a.kind 6 = 4 ∨ pickI a.kind 6 = 5 := by omega
      · have HPA := Lib.hid hpa
        clear hpa hp
        go_wp2_with fail
        refine (get_con T.i1 cc).mono ?_
        rintro e w1 ⟨⟨k1, n1, d1, t1, A1, c1, r1⟩, is1, rfl, hin1, hfr1, hb1, hy1, hs1⟩
        have hbW := up2 hb1 (below1 w1 (.cells #[.int .i64 k1, .int .i64 n1, .int .i64 d1, .string t1, .slice A1 r1.length c1] 56))
        have T1 := T.up hbW
        have hWw := hbel.trans (hbW.mono hbel.size)
        have hz1 := hb1.size
        have hCA := call_any T1.i1 a (ha.up hWw) (hT.up hWw) hWw.size
        obtain ⟨kind, ac, n, ⟨xk, xn, xi, xt, xA, xc, xr⟩⟩ := a
        have HCA := Lib.hid hCA
        have HIN1 := Lib.hid hin1
        have HFR1 := Lib.hid hfr1
        have HY1 := Lib.hid hy1
        have HS1 := Lib.hid hs1
        have HT1 := Lib.hid T1
        have HWW := Lib.hid hWw
        have HBW := Lib.hid hbW
        clear hCA hin1 hfr1 hy1 hs1 T1 hWw hbW hb1
        have w1e0 := ((HWW.out).cell (p := ⟨g, o + k * 8 + 0, none⟩) hg).trans e0
        have w1e1 := ((HWW.out).cell (p := ⟨g, o + k * 8 + 1, none⟩) hg).trans e1
        have w1e2 := ((HWW.out).cell (p := ⟨g, o + k * 8 + 2, none⟩) hg).trans e2
        have w1e3 := ((HWW.out).cell (p := ⟨g, o + k * 8 + 3, none⟩) hg).trans e3
        have w1e4 := ((HWW.out).cell (p := ⟨g, o + k * 8 + 4, none⟩) hg).trans e4
        have w1e5 := ((HWW.out).cell (p := ⟨g, o + k * 8 + 5, none⟩) hg).trans e5
        have w1e6 := ((HWW.out).cell (p := ⟨g, o + k * 8 + 6, none⟩) hg).trans e6
        have w1e7 := ((HWW.out).cell (p := ⟨g, o + k * 8 + 7, none⟩) hg).trans e7
        simp only [Nat.add_zero] at w1e0
        go_wp2_with fail
        refine HCA.out.mono ?_
        rintro e w2 ⟨m2, rfl, hm2, hme, hom, hfm⟩
        clear w1e0 w1e1 w1e2 w1e3 w1e4 w1e5 w1e6 w1e7
        have hF := HT1.out.first hm2 hom hfm
        have hbm := T.b2
        have hW2 : Below w.heap.size w w2 := HWW.out.trans (hom.below HWW.out.size (fun k hk => by omega))
        have hz2 := hom.size
        simp at hz2
        have hbmr := T.i1.im.lt
        have y0 := (hom.cell (k := w1.heap.size) (o := 0) (by simp) (fun e => by omega))
        have y1 := (hom.cell (k := w1.heap.size) (o := 1) (by simp) (fun e => by omega))
        have y2 := (hom.cell (k := w1.heap.size) (o := 2) (by simp) (fun e => by omega))
        have y3 := (hom.cell (k := w1.heap.size) (o := 3) (by simp) (fun e => by omega))
        have y4 := (hom.cell (k := w1.heap.size) (o := 4) (by simp) (fun e => by omega))
        simp at y0 y1 y2 y3 y4
        have hIN2 := (HIN1.out.up (below1 w1 _)).fresh hom (n := wr.heap.size) (fun g hg => HFR1.out.blk hg) (fun g hg => by omega)
        have HIN2 := Lib.hid hIN2
        have HM2 := Lib.hid hm2
        have HME := Lib.hid hme
        have HOM := Lib.hid hom
        have HF2 := Lib.hid hF
        have HW2 := Lib.hid hW2
        clear hm2 hme hom hfm hF hW2 hIN2
        have f0 := ((HW2.out).cell (p := ⟨g, o + k * 8 + 0, none⟩) hg).trans e0
        have f1 := ((HW2.out).cell (p := ⟨g, o + k * 8 + 1, none⟩) hg).trans e1
        have f2 := ((HW2.out).cell (p := ⟨g, o + k * 8 + 2, none⟩) hg).trans e2
        have f3 := ((HW2.out).cell (p := ⟨g, o + k * 8 + 3, none⟩) hg).trans e3
        have f4 := ((HW2.out).cell (p := ⟨g, o + k * 8 + 4, none⟩) hg).trans e4
        have f5 := ((HW2.out).cell (p := ⟨g, o + k * 8 + 5, none⟩) hg).trans e5
        have f6 := ((HW2.out).cell (p := ⟨g, o + k * 8 + 6, none⟩) hg).trans e6
        have f7 := ((HW2.out).cell (p := ⟨g, o + k * 8 + 7, none⟩) hg).trans e7
        simp only [Nat.add_zero] at f0
        go_wp2_with fail
        refine (HPK.out kind _).mono ?_
        rintro e w' ⟨rfl, rfl⟩
        rw [show pickI kind 6 = 0 from HPA.out]
        have hRA : Calls Tryd.prog 28 #[.pointer (some ⟨bo, 0, none⟩), .int .i64 ac, .agg #[.int .i64 xk, .int .i64 xn, .int .i64 xi, .string xt, .slice xA xr.length xc]] w2.drew (RrPost w2.drew bo v l (refE (conM l) ⟨kind, ac, n, ⟨xk, xn, xi, xt, xA, xc, xr⟩⟩) (refM (conM l) ⟨kind, ac, n, ⟨xk, xn, xi, xt, xA, xc, xr⟩⟩)) := by
          unfold refE refM
          dsimp only
          rw [show pickI kind 6 = _ from HPA.out, if_pos (show ((0 : Int) < 3) by decide), if_pos (show ((0 : Int) < 3) by decide)]
          exact rset_any HF2.out.1.drew ac ⟨xk, xn, xi, xt, xA, xc, xr⟩ (ha.rs.up HW2.out.drew) (Nat.le_trans ha.l (by omega)) (fun s hs => Nat.le_trans (ha.s s hs) (by omega)) (Nat.le_trans ha.t (by omega)) (by omega)
        have HRA := Lib.hid hRA
        clear hRA
        go_wp2_with fail
        have C1 : ∀ x : UpW w.heap.size w2, x.w.cell? ⟨g, o + k * 8 + 1, none⟩ = _ := fun x => (x.up.cell (p := ⟨g, o + k * 8 + 1, none⟩) hg).trans f1
        have C3 : ∀ x : UpW w.heap.size w2, x.w.cell? ⟨g, o + k * 8 + 3, none⟩ = _ := fun x => (x.up.cell (p := ⟨g, o + k * 8 + 3, none⟩) hg).trans f3
        have C4 : ∀ x : UpW w.heap.size w2, x.w.cell? ⟨g, o + k * 8 + 4, none⟩ = _ := fun x => (x.up.cell (p := ⟨g, o + k * 8 + 4, none⟩) hg).trans f4
        have C5 : ∀ x : UpW w.heap.size w2, x.w.cell? ⟨g, o + k * 8 + 5, none⟩ = _ := fun x => (x.up.cell (p := ⟨g, o + k * 8 + 5, none⟩) hg).trans f5
        have C6 : ∀ x : UpW w.heap.size w2, x.w.cell? ⟨g, o + k * 8 + 6, none⟩ = _ := fun x => (x.up.cell (p := ⟨g, o + k * 8 + 6, none⟩) hg).trans f6
        have C7 : ∀ x : UpW w.heap.size w2, x.w.cell? ⟨g, o + k * 8 + 7, none⟩ = _ := fun x => (x.up.cell (p := ⟨g, o + k * 8 + 7, none⟩) hg).trans f7
        refine wp_region_mixT w.heap.size 12 (.one [0, 1, 2, 3, 4, 5, 6, 7, 8, 9, 10] 11 (.done [])) (by kernel_rfl) (fun c d v a w h => by cases d <;> exact h) (by kernel_rfl) ?_
        simp only [wpMixT, pk_nil, pk_cons, pushAt_zero, pushAt_succ, List.drop_succ_cons, List.drop_zero]
        repeat (go_big_quiet_step (fail))
        refine wpQuiet_nil ?_
        clear C1 C3 C4 C5 C6 C7
        go_wp2_with fail
        refine HRA.out.mono ?_
        rintro e w3 ⟨v3, l3, rfl, hR3, hle, hol, hfl, hvl⟩
        have hol2 : Only (fun k => k = bo ∨ v.ownBlock = some k) w2 w3 := (Only.refl _ w2).drew.trans hol
        have hb3 : Below w.heap.size w2 w3 := hol2.below HW2.out.size (fun k hk => hk.elim (fun e => by have := T.b3; omega) (fun e => T.b4 k e))
        have hEr := T.rel.err ⟨kind, ac, n, ⟨xk, xn, xi, xt, xA, xc, xr⟩⟩
        have hRS := T.rel.step ⟨kind, ac, n, ⟨xk, xn, xi, xt, xA, xc, xr⟩⟩
        have hLn := refM_len (lc := conM l) ⟨kind, ac, n, ⟨xk, xn, xi, xt, xA, xc, xr⟩⟩
        rw [← HME.out, ← hle] at hRS
        rw [← hle, conM_length, conM_length] at hLn
        have hT3 := HT1.out.second HOM.out HM2.out HF2.out.2 hRS hR3 hol2 hfl hvl
        have hz3 := hol2.size
        have z0 := (hol2.cell (k := w1.heap.size) (o := 0) (by omega) (fun e => e.elim (fun e => by have := T.i2.lt; omega) (fun e => by have := T.i2.own.lt e; omega))).trans y0
        have z1 := (hol2.cell (k := w1.heap.size) (o := 1) (by omega) (fun e => e.elim (fun e => by have := T.i2.lt; omega) (fun e => by have := T.i2.own.lt e; omega))).trans y1
        have z2 := (hol2.cell (k := w1.heap.size) (o := 2) (by omega) (fun e => e.elim (fun e => by have := T.i2.lt; omega) (fun e => by have := T.i2.own.lt e; omega))).trans y2
        have z3 := (hol2.cell (k := w1.heap.size) (o := 3) (by omega) (fun e => e.elim (fun e => by have := T.i2.lt; omega) (fun e => by have := T.i2.own.lt e; omega))).trans y3
        have z4 := (hol2.cell (k := w1.heap.size) (o := 4) (by omega) (fun e => e.elim (fun e => by have := T.i2.lt; omega) (fun e => by have := T.i2.own.lt e; omega))).trans y4
        have HIN3 := Lib.hid (HIN2.out.fresh hol2 (n := wr.heap.size) (fun g hg => HFR1.out.blk hg) (fun g hg => hg.elim (fun e => by have := T.i2.lt; omega) (fun e => T.i2.own.lt e)))
        have HT3 := Lib.hid hT3
        have HW3 := Lib.hid (HW2.out.trans (hb3.mono (Nat.le_refl _)))
        have HB3 := Lib.hid hb3
        have HEr := Lib.hid hEr
        have hm3 : m2.length ≤ 1000000 := by have := hRS.len; rw [conM_length, conM_length] at this; omega
        have hl3 : l3.length ≤ k + 1 := by omega
        clear hR3 hle hol hol2 hfl hvl hT3 hb3 hEr hRS hLn y0 y1 y2 y3 y4
        have f1' := ((HB3.out).cell (p := ⟨g, o + k * 8 + 1, none⟩) hg).trans f1
        have hz3b := hz3
        go_wp2_with fail
        refine thenQ_normal ⟨⟨⟨_, HB3.out⟩, rfl⟩, ?_⟩
        refine wpQuiet_nil ?_
        clear f0 f1 f2 f3 f4 f5 f6 f7
        go_wp2_with fail
        refine (get_con HT3.out.i1 ac).mono ?_
        rintro e w4 ⟨⟨k4, n4, d4, t4, A4, c4, r4⟩, is4, rfl, hin4, hfr4, hb4, hy4, hs4⟩
        have hbW4 := up2 hb4 (below1 w4 (.cells #[.int .i64 k4, .int .i64 n4, .int .i64 d4, .string t4, .slice A4 r4.length c4] 56))
        have hz4 := hb4.size
        have zb0 := (hbW4.cell (p := ⟨w1.heap.size, 0, none⟩) (show w1.heap.size < w3.heap.size by omega)).trans z0
        have zb1 := (hbW4.cell (p := ⟨w1.heap.size, 1, none⟩) (show w1.heap.size < w3.heap.size by omega)).trans z1
        have zb2 := (hbW4.cell (p := ⟨w1.heap.size, 2, none⟩) (show w1.heap.size < w3.heap.size by omega)).trans z2
        have zb3 := (hbW4.cell (p := ⟨w1.heap.size, 3, none⟩) (show w1.heap.size < w3.heap.size by omega)).trans z3
        have zb4 := (hbW4.cell (p := ⟨w1.heap.size, 4, none⟩) (show w1.heap.size < w3.heap.size by omega)).trans z4
        have g1 := ((hbW4.mono (Nat.le_trans HW3.out.size (Nat.le_refl _))).cell (p := ⟨g, o + k * 8 + 1, none⟩) hg).trans f1'
        have HIN4 := Lib.hid (hin4.up (below1 w4 (.cells #[.int .i64 k4, .int .i64 n4, .int .i64 d4, .string t4, .slice A4 r4.length c4] 56)))
        have HY4 := Lib.hid hy4
        have HS4 := Lib.hid hs4
        have HBW4 := Lib.hid hbW4
        clear hin4 hfr4 hb4 hy4 hs4 hbW4 z0 z1 z2 z3 z4 f1'
        go_wp2_with fail
        refine (rget_con (HT3.out.i2.up HBW4.out) ac (by omega)).mono ?_
        rintro e w5 ⟨⟨k5, n5, d5, t5, A5, c5, r5⟩, is5, rfl, hin5, hfr5, hb5, hy5, hs5⟩
        have hbW5 := up2 hb5 (below1 w5 (.cells #[.int .i64 k5, .int .i64 n5, .int .i64 d5, .string t5, .slice A5 r5.length c5] 56))
        have hz5 := hb5.size
        simp at hz5
        have xb0 := hbW5.cell (p := ⟨w4.heap.size, 0, none⟩) (by simp)
        have xb1 := hbW5.cell (p := ⟨w4.heap.size, 1, none⟩) (by simp)
        have xb2 := hbW5.cell (p := ⟨w4.heap.size, 2, none⟩) (by simp)
        have xb3 := hbW5.cell (p := ⟨w4.heap.size, 3, none⟩) (by simp)
        have xb4 := hbW5.cell (p := ⟨w4.heap.size, 4, none⟩) (by simp)
        simp at xb0 xb1 xb2 xb3 xb4
        have zc0 := (hbW5.cell (p := ⟨w1.heap.size, 0, none⟩) (by simp; omega)).trans zb0
        have zc1 := (hbW5.cell (p := ⟨w1.heap.size, 1, none⟩) (by simp; omega)).trans zb1
        have zc2 := (hbW5.cell (p := ⟨w1.heap.size, 2, none⟩) (by simp; omega)).trans zb2
        have zc3 := (hbW5.cell (p := ⟨w1.heap.size, 3, none⟩) (by simp; omega)).trans zb3
        have zc4 := (hbW5.cell (p := ⟨w1.heap.size, 4, none⟩) (by simp; omega)).trans zb4
        have h0w4 := Nat.le_trans HW3.out.size hz4
        have g2 := ((hbW5.mono (show w.heap.size ≤ _ by simp; omega)).cell (p := ⟨g, o + k * 8 + 1, none⟩) hg).trans g1
        have HIN5 := Lib.hid (hin5.up (below1 w5 (.cells #[.int .i64 k5, .int .i64 n5, .int .i64 d5, .string t5, .slice A5 r5.length c5] 56)))
        have HY5 := Lib.hid hy5
        have HS5 := Lib.hid hs5
        have HBW5 := Lib.hid hbW5
        clear hin5 hfr5 hb5 hy5 hs5 hbW5 zb0 zb1 zb2 zb3 zb4 g1
        go_wp2_with fail
        refine (get_con ((HT3.out.i1.up HBW4.out).up HBW5.out) cc).mono ?_
        rintro e w6 ⟨⟨k6, n6, d6, t6, A6, c6, r6⟩, is6, rfl, hin6, hfr6, hb6, hy6, hs6⟩
        have hbW6 := up2 hb6 (below1 w6 (.cells #[.int .i64 k6, .int .i64 n6, .int .i64 d6, .string t6, .slice A6 r6.length c6] 56))
        have hz6 := hb6.size
        simp at hz6
        have vb0 := hbW6.cell (p := ⟨w5.heap.size, 0, none⟩) (by simp)
        have vb1 := hbW6.cell (p := ⟨w5.heap.size, 1, none⟩) (by simp)
        have vb2 := hbW6.cell (p := ⟨w5.heap.size, 2, none⟩) (by simp)
        have vb3 := hbW6.cell (p := ⟨w5.heap.size, 3, none⟩) (by simp)
        have vb4 := hbW6.cell (p := ⟨w5.heap.size, 4, none⟩) (by simp)
        simp at vb0 vb1 vb2 vb3 vb4
        have xc0 := (hbW6.cell (p := ⟨w4.heap.size, 0, none⟩) (by simp; omega)).trans xb0
        have xc1 := (hbW6.cell (p := ⟨w4.heap.size, 1, none⟩) (by simp; omega)).trans xb1
        have xc2 := (hbW6.cell (p := ⟨w4.heap.size, 2, none⟩) (by simp; omega)).trans xb2
        have xc3 := (hbW6.cell (p := ⟨w4.heap.size, 3, none⟩) (by simp; omega)).trans xb3
        have xc4 := (hbW6.cell (p := ⟨w4.heap.size, 4, none⟩) (by simp; omega)).trans xb4
        have zd0 := (hbW6.cell (p := ⟨w1.heap.size, 0, none⟩) (by simp; omega)).trans zc0
        have zd1 := (hbW6.cell (p := ⟨w1.heap.size, 1, none⟩) (by simp; omega)).trans zc1
        have zd2 := (hbW6.cell (p := ⟨w1.heap.size, 2, none⟩) (by simp; omega)).trans zc2
        have zd3 := (hbW6.cell (p := ⟨w1.heap.size, 3, none⟩) (by simp; omega)).trans zc3
        have zd4 := (hbW6.cell (p := ⟨w1.heap.size, 4, none⟩) (by simp; omega)).trans zc4
        have g3 := ((hbW6.mono (show w.heap.size ≤ _ by simp; omega)).cell (p := ⟨g, o + k * 8 + 1, none⟩) hg).trans g2
        have HIN6 := Lib.hid (hin6.up (below1 w6 (.cells #[.int .i64 k6, .int .i64 n6, .int .i64 d6, .string t6, .slice A6 r6.length c6] 56)))
        have HY6 := Lib.hid hy6
        have HS6 := Lib.hid hs6
        have HBW6 := Lib.hid hbW6
        have he45 : is5 = is4 := by rw [HS4.out, HS5.out, ← HT3.out.rel.eq]
        subst he45
        have d0 := bne_self is5
        rw [HEr.out]
        have d1 : (refE (conM l) ⟨kind, ac, n, ⟨xk, xn, xi, xt, xA, xc, xr⟩⟩ != refE (conM l) ⟨kind, ac, n, ⟨xk, xn, xi, xt, xA, xc, xr⟩⟩) = false := by simp
        have HSA := Lib.hid (same_true ((HIN4.out.up HBW5.out).up hbW6) (HIN5.out.up hbW6) (by rw [HY4.out, HY5.out, HT3.out.rel.eq]) (by have := con_rows HT3.out.i1 ac; rw [← HY4.out] at this; exact this))
        have HT6 := Lib.hid (((HT3.out.up HBW4.out).up HBW5.out).up hbW6)
        clear hin6 hfr6 hb6 hy6 hs6 hbW6 zc0 zc1 zc2 zc3 zc4 xb0 xb1 xb2 xb3 xb4 g2
        go_wp2_with fail
        refine HSA.out.mono ?_
        rintro e w7 ⟨rfl, hb7⟩
        have hT7 := HT6.out.up hb7
        have hNM := names_any hT7.i1 hm3 (ks := l3.map (·.1)) (by have := hT7.rel.keys; unfold conM at this; rwa [List.map_map, List.map_map] at this) hT7.i2.sorted
        have HNM := Lib.hid hNM
        have HT7 := Lib.hid hT7
        have HB7 := Lib.hid hb7
        clear hNM hT7
        go_wp2_with fail
        refine HNM.out.mono ?_
        rintro e w8 ⟨v8, rfl, hown8, hb8⟩
        obtain ⟨A8, c8, rfl, _, _, hr8⟩ := hown8.shape eltI
        have HR8 := Lib.hid hr8
        have HB8 := Lib.hid hb8
        have HRN := Lib.hid (rnames_any (HT7.out.i2.up hb8) (by omega))
        clear hown8 hr8
        go_wp2_with fail
        refine HRN.out.mono ?_
        rintro e w9 ⟨v9, rfl, hown9, hb9⟩
        obtain ⟨A9, c9, rfl, _, _, hr9⟩ := hown9.shape eltI
        have hsi := sameI_true c8 c9 (HR8.out.up hb9) hr9 (by simp; omega)
        rw [List.length_map] at hsi
        have HSI := Lib.hid hsi
        clear hsi
        have HB9 := Lib.hid hb9
        clear hown9 hr9
        go_wp2_with fail
        refine HSI.out.mono ?_
        rintro e wa ⟨rfl, hba⟩
        have hba9 := up2 (up2 (up2 hb7 hb8) hb9) hba
        have hza := hba9.size
        simp at hza
        have g4 := ((hba9.mono (show w.heap.size ≤ _ by simp; omega)).cell (p := ⟨g, o + k * 8 + 1, none⟩) hg).trans g3
        have ze0 := (hba9.cell (p := ⟨w1.heap.size, 0, none⟩) (by simp; omega)).trans zd0
        have ze1 := (hba9.cell (p := ⟨w1.heap.size, 1, none⟩) (by simp; omega)).trans zd1
        have ze2 := (hba9.cell (p := ⟨w1.heap.size, 2, none⟩) (by simp; omega)).trans zd2
        have ze3 := (hba9.cell (p := ⟨w1.heap.size, 3, none⟩) (by simp; omega)).trans zd3
        have ze4 := (hba9.cell (p := ⟨w1.heap.size, 4, none⟩) (by simp; omega)).trans zd4
        have ub0 := hba9.cell (p := ⟨w6.heap.size, 0, none⟩) (by simp)
        have ub1 := hba9.cell (p := ⟨w6.heap.size, 1, none⟩) (by simp)
        have ub2 := hba9.cell (p := ⟨w6.heap.size, 2, none⟩) (by simp)
        have ub3 := hba9.cell (p := ⟨w6.heap.size, 3, none⟩) (by simp)
        have ub4 := hba9.cell (p := ⟨w6.heap.size, 4, none⟩) (by simp)
        simp at ub0 ub1 ub2 ub3 ub4
        have hWa := (((HBW4.out.trans (HBW5.out.mono HBW4.out.size)).trans (HBW6.out.mono (by have := HBW4.out.size; have := HBW5.out.size; omega))).trans (hba9.mono (by have := HBW4.out.size; have := HBW5.out.size; have := HBW6.out.size; omega)))
        have HTa := Lib.hid (HT3.out.up hWa)
        have HWa := Lib.hid (HW3.out.trans (hWa.mono HW3.out.size))
        have HINa := Lib.hid (HIN3.out.up hWa)
        have HI6a := Lib.hid (HIN6.out.up hba9)
        clear hb7 hb8 hb9 hba hba9 hWa g3 zd0 zd1 zd2 zd3 zd4 xc0 xc1 xc2 xc3 xc4 vb0 vb1 vb2 vb3 vb4
        by_cases hcc : cc = ac
        · have dc : (cc != ac) = false := by simpa using hcc
          clear hcc ze0 ze1 ze2 ze3 ze4 ub0 ub1 ub2 ub3 ub4
          go_wp2_with fail
          go_roundw
          case rel => exact ⟨k + 1, m2, v3, l3, by omega, by go_num, HTa.out, hl3, HWa.out⟩
          case measure => simp [intOf]; omega
        · have dc : (cc != ac) = true := by simpa using hcc
          have hoth := callM_other (mc := conM m) ⟨kind, ac, n, ⟨xk, xn, xi, xt, xA, xc, xr⟩⟩ (k := cc) hcc
          rw [← HME.out] at hoth
          have he16 : is6 = is1 := by rw [HS1.out, HS6.out, hoth]
          subst he16
          have d2 := bne_self is6
          have HSB := Lib.hid (same_true HINa.out HI6a.out (by rw [HY1.out, HY6.out, hoth]) (by have := con_rows T.i1 cc; rw [← HY1.out] at this; exact this))
          clear hcc hoth
          go_wp2_with fail
          refine HSB.out.mono ?_
          rintro e wb ⟨rfl, hbb⟩
          have HTb := Lib.hid (HTa.out.up hbb)
          have HWb := Lib.hid (HWa.out.trans (hbb.mono HWa.out.size))
          clear ze0 ze1 ze2 ze3 ze4 ub0 ub1 ub2 ub3 ub4 hbb
          go_wp2_with fail
          go_roundw
          case rel => exact ⟨k + 1, m2, v3, l3, by omega, by go_num, HTb.out, hl3, HWb.out⟩
          case measure => simp [intOf]; omega
      · have HPA := Lib.hid hpa
        clear hpa hp
        go_wp2_with fail
        refine (get_con T.i1 cc).mono ?_
        rintro e w1 ⟨⟨k1, n1, d1, t1, A1, c1, r1⟩, is1, rfl, hin1, hfr1, hb1, hy1, hs1⟩
        have hbW := up2 hb1 (below1 w1 (.cells #[.int .i64 k1, .int .i64 n1, .int .i64 d1, .string t1, .slice A1 r1.length c1] 56))
        have T1 := T.up hbW
        have hWw := hbel.trans (hbW.mono hbel.size)
        have hz1 := hb1.size
        have hCA := call_any T1.i1 a (ha.up hWw) (hT.up hWw) hWw.size
        obtain ⟨kind, ac, n, ⟨xk, xn, xi, xt, xA, xc, xr⟩⟩ := a
        have HCA := Lib.hid hCA
        have HIN1 := Lib.hid hin1
        have HFR1 := Lib.hid hfr1
        have HY1 := Lib.hid hy1
        have HS1 := Lib.hid hs1
        have HT1 := Lib.hid T1
        have HWW := Lib.hid hWw
        have HBW := Lib.hid hbW
        clear hCA hin1 hfr1 hy1 hs1 T1 hWw hbW hb1
        have w1e0 := ((HWW.out).cell (p := ⟨g, o + k * 8 + 0, none⟩) hg).trans e0
        have w1e1 := ((HWW.out).cell (p := ⟨g, o + k * 8 + 1, none⟩) hg).trans e1
        have w1e2 := ((HWW.out).cell (p := ⟨g, o + k * 8 + 2, none⟩) hg).trans e2
        have w1e3 := ((HWW.out).cell (p := ⟨g, o + k * 8 + 3, none⟩) hg).trans e3
        have w1e4 := ((HWW.out).cell (p := ⟨g, o + k * 8 + 4, none⟩) hg).trans e4
        have w1e5 := ((HWW.out).cell (p := ⟨g, o + k * 8 + 5, none⟩) hg).trans e5
        have w1e6 := ((HWW.out).cell (p := ⟨g, o + k * 8 + 6, none⟩) hg).trans e6
        have w1e7 := ((HWW.out).cell (p := ⟨g, o + k * 8 + 7, none⟩) hg).trans e7
        simp only [Nat.add_zero] at w1e0
        go_wp2_with fail
        refine HCA.out.mono ?_
        rintro e w2 ⟨m2, rfl, hm2, hme, hom, hfm⟩
        clear w1e0 w1e1 w1e2 w1e3 w1e4 w1e5 w1e6 w1e7
        have hF := HT1.out.first hm2 hom hfm
        have hbm := T.b2
        have hW2 : Below w.heap.size w w2 := HWW.out.trans (hom.below HWW.out.size (fun k hk => by omega))
        have hz2 := hom.size
        simp at hz2
        have hbmr := T.i1.im.lt
        have y0 := (hom.cell (k := w1.heap.size) (o := 0) (by simp) (fun e => by omega))
        have y1 := (hom.cell (k := w1.heap.size) (o := 1) (by simp) (fun e => by omega))
        have y2 := (hom.cell (k := w1.heap.size) (o := 2) (by simp) (fun e => by omega))
        have y3 := (hom.cell (k := w1.heap.size) (o := 3) (by simp) (fun e => by omega))
        have y4 := (hom.cell (k := w1.heap.size) (o := 4) (by simp) (fun e => by omega))
        simp at y0 y1 y2 y3 y4
        have hIN2 := (HIN1.out.up (below1 w1 _)).fresh hom (n := wr.heap.size) (fun g hg => HFR1.out.blk hg) (fun g hg => by omega)
        have HIN2 := Lib.hid hIN2
        have HM2 := Lib.hid hm2
        have HME := Lib.hid hme
        have HOM := Lib.hid hom
        have HF2 := Lib.hid hF
        have HW2 := Lib.hid hW2
        clear hm2 hme hom hfm hF hW2 hIN2
        have f0 := ((HW2.out).cell (p := ⟨g, o + k * 8 + 0, none⟩) hg).trans e0
        have f1 := ((HW2.out).cell (p := ⟨g, o + k * 8 + 1, none⟩) hg).trans e1
        have f2 := ((HW2.out).cell (p := ⟨g, o + k * 8 + 2, none⟩) hg).trans e2
        have f3 := ((HW2.out).cell (p := ⟨g, o + k * 8 + 3, none⟩) hg).trans e3
        have f4 := ((HW2.out).cell (p := ⟨g, o + k * 8 + 4, none⟩) hg).trans e4
        have f5 := ((HW2.out).cell (p := ⟨g, o + k * 8 + 5, none⟩) hg).trans e5
        have f6 := ((HW2.out).cell (p := ⟨g, o + k * 8 + 6, none⟩) hg).trans e6
        have f7 := ((HW2.out).cell (p := ⟨g, o + k * 8 + 7, none⟩) hg).trans e7
        simp only [Nat.add_zero] at f0
        go_wp2_with fail
        refine (HPK.out kind _).mono ?_
        rintro e w' ⟨rfl, rfl⟩
        rw [show pickI kind 6 = 1 from HPA.out]
        have hRA : Calls Tryd.prog 28 #[.pointer (some ⟨bo, 0, none⟩), .int .i64 ac, .agg #[.int .i64 xk, .int .i64 xn, .int .i64 xi, .string xt, .slice xA xr.length xc]] w2.drew (RrPost w2.drew bo v l (refE (conM l) ⟨kind, ac, n, ⟨xk, xn, xi, xt, xA, xc, xr⟩⟩) (refM (conM l) ⟨kind, ac, n, ⟨xk, xn, xi, xt, xA, xc, xr⟩⟩)) := by
          unfold refE refM
          dsimp only
          rw [show pickI kind 6 = _ from HPA.out, if_pos (show ((1 : Int) < 3) by decide), if_pos (show ((1 : Int) < 3) by decide)]
          exact rset_any HF2.out.1.drew ac ⟨xk, xn, xi, xt, xA, xc, xr⟩ (ha.rs.up HW2.out.drew) (Nat.le_trans ha.l (by omega)) (fun s hs => Nat.le_trans (ha.s s hs) (by omega)) (Nat.le_trans ha.t (by omega)) (by omega)
        have HRA := Lib.hid hRA
        clear hRA
        go_wp2_with fail
        have C1 : ∀ x : UpW w.heap.size w2, x.w.cell? ⟨g, o + k * 8 + 1, none⟩ = _ := fun x => (x.up.cell (p := ⟨g, o + k * 8 + 1, none⟩) hg).trans f1
        have C3 : ∀ x : UpW w.heap.size w2, x.w.cell? ⟨g, o + k * 8 + 3, none⟩ = _ := fun x => (x.up.cell (p := ⟨g, o + k * 8 + 3, none⟩) hg).trans f3
        have C4 : ∀ x : UpW w.heap.size w2, x.w.cell? ⟨g, o + k * 8 + 4, none⟩ = _ := fun x => (x.up.cell (p := ⟨g, o + k * 8 + 4, none⟩) hg).trans f4
        have C5 : ∀ x : UpW w.heap.size w2, x.w.cell? ⟨g, o + k * 8 + 5, none⟩ = _ := fun x => (x.up.cell (p := ⟨g, o + k * 8 + 5, none⟩) hg).trans f5
        have C6 : ∀ x : UpW w.heap.size w2, x.w.cell? ⟨g, o + k * 8 + 6, none⟩ = _ := fun x => (x.up.cell (p := ⟨g, o + k * 8 + 6, none⟩) hg).trans f6
        have C7 : ∀ x : UpW w.heap.size w2, x.w.cell? ⟨g, o + k * 8 + 7, none⟩ = _ := fun x => (x.up.cell (p := ⟨g, o + k * 8 + 7, none⟩) hg).trans f7
        refine wp_region_mixT w.heap.size 12 (.one [0, 1, 2, 3, 4, 5, 6, 7, 8, 9, 10] 11 (.done [])) (by kernel_rfl) (fun c d v a w h => by cases d <;> exact h) (by kernel_rfl) ?_
        simp only [wpMixT, pk_nil, pk_cons, pushAt_zero, pushAt_succ, List.drop_succ_cons, List.drop_zero]
        repeat (go_big_quiet_step (fail))
        refine wpQuiet_nil ?_
        clear C1 C3 C4 C5 C6 C7
        go_wp2_with fail
        refine HRA.out.mono ?_
        rintro e w3 ⟨v3, l3, rfl, hR3, hle, hol, hfl, hvl⟩
        have hol2 : Only (fun k => k = bo ∨ v.ownBlock = some k) w2 w3 := (Only.refl _ w2).drew.trans hol
        have hb3 : Below w.heap.size w2 w3 := hol2.below HW2.out.size (fun k hk => hk.elim (fun e => by have := T.b3; omega) (fun e => T.b4 k e))
        have hEr := T.rel.err ⟨kind, ac, n, ⟨xk, xn, xi, xt, xA, xc, xr⟩⟩
        have hRS := T.rel.step ⟨kind, ac, n, ⟨xk, xn, xi, xt, xA, xc, xr⟩⟩
        have hLn := refM_len (lc := conM l) ⟨kind, ac, n, ⟨xk, xn, xi, xt, xA, xc, xr⟩⟩
        rw [← HME.out, ← hle] at hRS
        rw [← hle, conM_length, conM_length] at hLn
        have hT3 := HT1.out.second HOM.out HM2.out HF2.out.2 hRS hR3 hol2 hfl hvl
        have hz3 := hol2.size
        have z0 := (hol2.cell (k := w1.heap.size) (o := 0) (by omega) (fun e => e.elim (fun e => by have := T.i2.lt; omega) (fun e => by have := T.i2.own.lt e; omega))).trans y0
        have z1 := (hol2.cell (k := w1.heap.size) (o := 1) (by omega) (fun e => e.elim (fun e => by have := T.i2.lt; omega) (fun e => by have := T.i2.own.lt e; omega))).trans y1
        have z2 := (hol2.cell (k := w1.heap.size) (o := 2) (by omega) (fun e => e.elim (fun e => by have := T.i2.lt; omega) (fun e => by have := T.i2.own.lt e; omega))).trans y2
        have z3 := (hol2.cell (k := w1.heap.size) (o := 3) (by omega) (fun e => e.elim (fun e => by have := T.i2.lt; omega) (fun e => by have := T.i2.own.lt e; omega))).trans y3
        have z4 := (hol2.cell (k := w1.heap.size) (o := 4) (by omega) (fun e => e.elim (fun e => by have := T.i2.lt; omega) (fun e => by have := T.i2.own.lt e; omega))).trans y4
        have HIN3 := Lib.hid (HIN2.out.fresh hol2 (n := wr.heap.size) (fun g hg => HFR1.out.blk hg) (fun g hg => hg.elim (fun e => by have := T.i2.lt; omega) (fun e => T.i2.own.lt e)))
        have HT3 := Lib.hid hT3
        have HW3 := Lib.hid (HW2.out.trans (hb3.mono (Nat.le_refl _)))
        have HB3 := Lib.hid hb3
        have HEr := Lib.hid hEr
        have hm3 : m2.length ≤ 1000000 := by have := hRS.len; rw [conM_length, conM_length] at this; omega
        have hl3 : l3.length ≤ k + 1 := by omega
        clear hR3 hle hol hol2 hfl hvl hT3 hb3 hEr hRS hLn y0 y1 y2 y3 y4
        have f1' := ((HB3.out).cell (p := ⟨g, o + k * 8 + 1, none⟩) hg).trans f1
        have hz3b := hz3
        go_wp2_with fail
        refine thenQ_normal ⟨⟨⟨_, HB3.out⟩, rfl⟩, ?_⟩
        refine wpQuiet_nil ?_
        clear f0 f1 f2 f3 f4 f5 f6 f7
        go_wp2_with fail
        refine (get_con HT3.out.i1 ac).mono ?_
        rintro e w4 ⟨⟨k4, n4, d4, t4, A4, c4, r4⟩, is4, rfl, hin4, hfr4, hb4, hy4, hs4⟩
        have hbW4 := up2 hb4 (below1 w4 (.cells #[.int .i64 k4, .int .i64 n4, .int .i64 d4, .string t4, .slice A4 r4.length c4] 56))
        have hz4 := hb4.size
        have zb0 := (hbW4.cell (p := ⟨w1.heap.size, 0, none⟩) (show w1.heap.size < w3.heap.size by omega)).trans z0
        have zb1 := (hbW4.cell (p := ⟨w1.heap.size, 1, none⟩) (show w1.heap.size < w3.heap.size by omega)).trans z1
        have zb2 := (hbW4.cell (p := ⟨w1.heap.size, 2, none⟩) (show w1.heap.size < w3.heap.size by omega)).trans z2
        have zb3 := (hbW4.cell (p := ⟨w1.heap.size, 3, none⟩) (show w1.heap.size < w3.heap.size by omega)).trans z3
        have zb4 := (hbW4.cell (p := ⟨w1.heap.size, 4, none⟩) (show w1.heap.size < w3.heap.size by omega)).trans z4
        have g1 := ((hbW4.mono (Nat.le_trans HW3.out.size (Nat.le_refl _))).cell (p := ⟨g, o + k * 8 + 1, none⟩) hg).trans f1'
        have HIN4 := Lib.hid (hin4.up (below1 w4 (.cells #[.int .i64 k4, .int .i64 n4, .int .i64 d4, .string t4, .slice A4 r4.length c4] 56)))
        have HY4 := Lib.hid hy4
        have HS4 := Lib.hid hs4
        have HBW4 := Lib.hid hbW4
        clear hin4 hfr4 hb4 hy4 hs4 hbW4 z0 z1 z2 z3 z4 f1'
        go_wp2_with fail
        refine (rget_con (HT3.out.i2.up HBW4.out) ac (by omega)).mono ?_
        rintro e w5 ⟨⟨k5, n5, d5, t5, A5, c5, r5⟩, is5, rfl, hin5, hfr5, hb5, hy5, hs5⟩
        have hbW5 := up2 hb5 (below1 w5 (.cells #[.int .i64 k5, .int .i64 n5, .int .i64 d5, .string t5, .slice A5 r5.length c5] 56))
        have hz5 := hb5.size
        simp at hz5
        have xb0 := hbW5.cell (p := ⟨w4.heap.size, 0, none⟩) (by simp)
        have xb1 := hbW5.cell (p := ⟨w4.heap.size, 1, none⟩) (by simp)
        have xb2 := hbW5.cell (p := ⟨w4.heap.size, 2, none⟩) (by simp)
        have xb3 := hbW5.cell (p := ⟨w4.heap.size, 3, none⟩) (by simp)
        have xb4 := hbW5.cell (p := ⟨w4.heap.size, 4, none⟩) (by simp)
        simp at xb0 xb1 xb2 xb3 xb4
        have zc0 := (hbW5.cell (p := ⟨w1.heap.size, 0, none⟩) (by simp; omega)).trans zb0
        have zc1 := (hbW5.cell (p := ⟨w1.heap.size, 1, none⟩) (by simp; omega)).trans zb1
        have zc2 := (hbW5.cell (p := ⟨w1.heap.size, 2, none⟩) (by simp; omega)).trans zb2
        have zc3 := (hbW5.cell (p := ⟨w1.heap.size, 3, none⟩) (by simp; omega)).trans zb3
        have zc4 := (hbW5.cell (p := ⟨w1.heap.size, 4, none⟩) (by simp; omega)).trans zb4
        have h0w4 := Nat.le_trans HW3.out.size hz4
        have g2 := ((hbW5.mono (show w.heap.size ≤ _ by simp; omega)).cell (p := ⟨g, o + k * 8 + 1, none⟩) hg).trans g1
        have HIN5 := Lib.hid (hin5.up (below1 w5 (.cells #[.int .i64 k5, .int .i64 n5, .int .i64 d5, .string t5, .slice A5 r5.length c5] 56)))
        have HY5 := Lib.hid hy5
        have HS5 := Lib.hid hs5
        have HBW5 := Lib.hid hbW5
        clear hin5 hfr5 hb5 hy5 hs5 hbW5 zb0 zb1 zb2 zb3 zb4 g1
        go_wp2_with fail
        refine (get_con ((HT3.out.i1.up HBW4.out).up HBW5.out) cc).mono ?_
        rintro e w6 ⟨⟨k6, n6, d6, t6, A6, c6, r6⟩, is6, rfl, hin6, hfr6, hb6, hy6, hs6⟩
        have hbW6 := up2 hb6 (below1 w6 (.cells #[.int .i64 k6, .int .i64 n6, .int .i64 d6, .string t6, .slice A6 r6.length c6] 56))
        have hz6 := hb6.size
        simp at hz6
        have vb0 := hbW6.cell (p := ⟨w5.heap.size, 0, none⟩) (by simp)
        have vb1 := hbW6.cell (p := ⟨w5.heap.size, 1, none⟩) (by simp)
        have vb2 := hbW6.cell (p := ⟨w5.heap.size, 2, none⟩) (by simp)
        have vb3 := hbW6.cell (p := ⟨w5.heap.size, 3, none⟩) (by simp)
        have vb4 := hbW6.cell (p := ⟨w5.heap.size, 4, none⟩) (by simp)
        simp at vb0 vb1 vb2 vb3 vb4
        have xc0 := (hbW6.cell (p := ⟨w4.heap.size, 0, none⟩) (by simp; omega)).trans xb0
        have xc1 := (hbW6.cell (p := ⟨w4.heap.size, 1, none⟩) (by simp; omega)).trans xb1
        have xc2 := (hbW6.cell (p := ⟨w4.heap.size, 2, none⟩) (by simp; omega)).trans xb2
        have xc3 := (hbW6.cell (p := ⟨w4.heap.size, 3, none⟩) (by simp; omega)).trans xb3
        have xc4 := (hbW6.cell (p := ⟨w4.heap.size, 4, none⟩) (by simp; omega)).trans xb4
        have zd0 := (hbW6.cell (p := ⟨w1.heap.size, 0, none⟩) (by simp; omega)).trans zc0
        have zd1 := (hbW6.cell (p := ⟨w1.heap.size, 1, none⟩) (by simp; omega)).trans zc1
        have zd2 := (hbW6.cell (p := ⟨w1.heap.size, 2, none⟩) (by simp; omega)).trans zc2
        have zd3 := (hbW6.cell (p := ⟨w1.heap.size, 3, none⟩) (by simp; omega)).trans zc3
        have zd4 := (hbW6.cell (p := ⟨w1.heap.size, 4, none⟩) (by simp; omega)).trans zc4
        have g3 := ((hbW6.mono (show w.heap.size ≤ _ by simp; omega)).cell (p := ⟨g, o + k * 8 + 1, none⟩) hg).trans g2
        have HIN6 := Lib.hid (hin6.up (below1 w6 (.cells #[.int .i64 k6, .int .i64 n6, .int .i64 d6, .string t6, .slice A6 r6.length c6] 56)))
        have HY6 := Lib.hid hy6
        have HS6 := Lib.hid hs6
        have HBW6 := Lib.hid hbW6
        have he45 : is5 = is4 := by rw [HS4.out, HS5.out, ← HT3.out.rel.eq]
        subst he45
        have d0 := bne_self is5
        rw [HEr.out]
        have d1 : (refE (conM l) ⟨kind, ac, n, ⟨xk, xn, xi, xt, xA, xc, xr⟩⟩ != refE (conM l) ⟨kind, ac, n, ⟨xk, xn, xi, xt, xA, xc, xr⟩⟩) = false := by simp
        have HSA := Lib.hid (same_true ((HIN4.out.up HBW5.out).up hbW6) (HIN5.out.up hbW6) (by rw [HY4.out, HY5.out, HT3.out.rel.eq]) (by have := con_rows HT3.out.i1 ac; rw [← HY4.out] at this; exact this))
        have HT6 := Lib.hid (((HT3.out.up HBW4.out).up HBW5.out).up hbW6)
        clear hin6 hfr6 hb6 hy6 hs6 hbW6 zc0 zc1 zc2 zc3 zc4 xb0 xb1 xb2 xb3 xb4 g2
        go_wp2_with fail
        refine HSA.out.mono ?_
        rintro e w7 ⟨rfl, hb7⟩
        have hT7 := HT6.out.up hb7
        have hNM := names_any hT7.i1 hm3 (ks := l3.map (·.1)) (by have := hT7.rel.keys; unfold conM at this; rwa [List.map_map, List.map_map] at this) hT7.i2.sorted
        have HNM := Lib.hid hNM
        have HT7 := Lib.hid hT7
        have HB7 := Lib.hid hb7
        clear hNM hT7
        go_wp2_with fail
        refine HNM.out.mono ?_
        rintro e w8 ⟨v8, rfl, hown8, hb8⟩
        obtain ⟨A8, c8, rfl, _, _, hr8⟩ := hown8.shape eltI
        have HR8 := Lib.hid hr8
        have HB8 := Lib.hid hb8
        have HRN := Lib.hid (rnames_any (HT7.out.i2.up hb8) (by omega))
        clear hown8 hr8
        go_wp2_with fail
        refine HRN.out.mono ?_
        rintro e w9 ⟨v9, rfl, hown9, hb9⟩
        obtain ⟨A9, c9, rfl, _, _, hr9⟩ := hown9.shape eltI
        have hsi := sameI_true c8 c9 (HR8.out.up hb9) hr9 (by simp; omega)
        rw [List.length_map] at hsi
        have HSI := Lib.hid hsi
        clear hsi
        have HB9 := Lib.hid hb9
        clear hown9 hr9
        go_wp2_with fail
        refine HSI.out.mono ?_
        rintro e wa ⟨rfl, hba⟩
        have hba9 := up2 (up2 (up2 hb7 hb8) hb9) hba
        have hza := hba9.size
        simp at hza
        have g4 := ((hba9.mono (show w.heap.size ≤ _ by simp; omega)).cell (p := ⟨g, o + k * 8 + 1, none⟩) hg).trans g3
        have ze0 := (hba9.cell (p := ⟨w1.heap.size, 0, none⟩) (by simp; omega)).trans zd0
        have ze1 := (hba9.cell (p := ⟨w1.heap.size, 1, none⟩) (by simp; omega)).trans zd1
        have ze2 := (hba9.cell (p := ⟨w1.heap.size, 2, none⟩) (by simp; omega)).trans zd2
        have ze3 := (hba9.cell (p := ⟨w1.heap.size, 3, none⟩) (by simp; omega)).trans zd3
        have ze4 := (hba9.cell (p := ⟨w1.heap.size, 4, none⟩) (by simp; omega)).trans zd4
        have ub0 := hba9.cell (p := ⟨w6.heap.size, 0, none⟩) (by simp)
        have ub1 := hba9.cell (p := ⟨w6.heap.size, 1, none⟩) (by simp)
        have ub2 := hba9.cell (p := ⟨w6.heap.size, 2, none⟩) (by simp)
        have ub3 := hba9.cell (p := ⟨w6.heap.size, 3, none⟩) (by simp)
        have ub4 := hba9.cell (p := ⟨w6.heap.size, 4, none⟩) (by simp)
        simp at ub0 ub1 ub2 ub3 ub4
        have hWa := (((HBW4.out.trans (HBW5.out.mono HBW4.out.size)).trans (HBW6.out.mono (by have := HBW4.out.size; have := HBW5.out.size; omega))).trans (hba9.mono (by have := HBW4.out.size; have := HBW5.out.size; have := HBW6.out.size; omega)))
        have HTa := Lib.hid (HT3.out.up hWa)
        have HWa := Lib.hid (HW3.out.trans (hWa.mono HW3.out.size))
        have HINa := Lib.hid (HIN3.out.up hWa)
        have HI6a := Lib.hid (HIN6.out.up hba9)
        clear hb7 hb8 hb9 hba hba9 hWa g3 zd0 zd1 zd2 zd3 zd4 xc0 xc1 xc2 xc3 xc4 vb0 vb1 vb2 vb3 vb4
        by_cases hcc : cc = ac
        · have dc : (cc != ac) = false := by simpa using hcc
          clear hcc ze0 ze1 ze2 ze3 ze4 ub0 ub1 ub2 ub3 ub4
          go_wp2_with fail
          go_roundw
          case rel => exact ⟨k + 1, m2, v3, l3, by omega, by go_num, HTa.out, hl3, HWa.out⟩
          case measure => simp [intOf]; omega
        · have dc : (cc != ac) = true := by simpa using hcc
          have hoth := callM_other (mc := conM m) ⟨kind, ac, n, ⟨xk, xn, xi, xt, xA, xc, xr⟩⟩ (k := cc) hcc
          rw [← HME.out] at hoth
          have he16 : is6 = is1 := by rw [HS1.out, HS6.out, hoth]
          subst he16
          have d2 := bne_self is6
          have HSB := Lib.hid (same_true HINa.out HI6a.out (by rw [HY1.out, HY6.out, hoth]) (by have := con_rows T.i1 cc; rw [← HY1.out] at this; exact this))
          clear hcc hoth
          go_wp2_with fail
          refine HSB.out.mono ?_
          rintro e wb ⟨rfl, hbb⟩
          have HTb := Lib.hid (HTa.out.up hbb)
          have HWb := Lib.hid (HWa.out.trans (hbb.mono HWa.out.size))
          clear ze0 ze1 ze2 ze3 ze4 ub0 ub1 ub2 ub3 ub4 hbb
          go_wp2_with fail
          go_roundw
          case rel => exact ⟨k + 1, m2, v3, l3, by omega, by go_num, HTb.out, hl3, HWb.out⟩
          case measure => simp [intOf]; omega
      · have HPA := Lib.hid hpa
        clear hpa hp
        go_wp2_with fail
        refine (get_con T.i1 cc).mono ?_
        rintro e w1 ⟨⟨k1, n1, d1, t1, A1, c1, r1⟩, is1, rfl, hin1, hfr1, hb1, hy1, hs1⟩
        have hbW := up2 hb1 (below1 w1 (.cells #[.int .i64 k1, .int .i64 n1, .int .i64 d1, .string t1, .slice A1 r1.length c1] 56))
        have T1 := T.up hbW
        have hWw := hbel.trans (hbW.mono hbel.size)
        have hz1 := hb1.size
        have hCA := call_any T1.i1 a (ha.up hWw) (hT.up hWw) hWw.size
        obtain ⟨kind, ac, n, ⟨xk, xn, xi, xt, xA, xc, xr⟩⟩ := a
        have HCA := Lib.hid hCA
        have HIN1 := Lib.hid hin1
        have HFR1 := Lib.hid hfr1
        have HY1 := Lib.hid hy1
        have HS1 := Lib.hid hs1
        have HT1 := Lib.hid T1
        have HWW := Lib.hid hWw
        have HBW := Lib.hid hbW
        clear hCA hin1 hfr1 hy1 hs1 T1 hWw hbW hb1
        have w1e0 := ((HWW.out).cell (p := ⟨g, o + k * 8 + 0, none⟩) hg).trans e0
        have w1e1 := ((HWW.out).cell (p := ⟨g, o + k * 8 + 1, none⟩) hg).trans e1
        have w1e2 := ((HWW.out).cell (p := ⟨g, o + k * 8 + 2, none⟩) hg).trans e2
        have w1e3 := ((HWW.out).cell (p := ⟨g, o + k * 8 + 3, none⟩) hg).trans e3
        have w1e4 := ((HWW.out).cell (p := ⟨g, o + k * 8 + 4, none⟩) hg).trans e4
        have w1e5 := ((HWW.out).cell (p := ⟨g, o + k * 8 + 5, none⟩) hg).trans e5
        have w1e6 := ((HWW.out).cell (p := ⟨g, o + k * 8 + 6, none⟩) hg).trans e6
        have w1e7 := ((HWW.out).cell (p := ⟨g, o + k * 8 + 7, none⟩) hg).trans e7
        simp only [Nat.add_zero] at w1e0
        go_wp2_with fail
        refine HCA.out.mono ?_
        rintro e w2 ⟨m2, rfl, hm2, hme, hom, hfm⟩
        clear w1e0 w1e1 w1e2 w1e3 w1e4 w1e5 w1e6 w1e7
        have hF := HT1.out.first hm2 hom hfm
        have hbm := T.b2
        have hW2 : Below w.heap.size w w2 := HWW.out.trans (hom.below HWW.out.size (fun k hk => by omega))
        have hz2 := hom.size
        simp at hz2
        have hbmr := T.i1.im.lt
        have y0 := (hom.cell (k := w1.heap.size) (o := 0) (by simp) (fun e => by omega))
        have y1 := (hom.cell (k := w1.heap.size) (o := 1) (by simp) (fun e => by omega))
        have y2 := (hom.cell (k := w1.heap.size) (o := 2) (by simp) (fun e => by omega))
        have y3 := (hom.cell (k := w1.heap.size) (o := 3) (by simp) (fun e => by omega))
        have y4 := (hom.cell (k := w1.heap.size) (o := 4) (by simp) (fun e => by omega))
        simp at y0 y1 y2 y3 y4
        have hIN2 := (HIN1.out.up (below1 w1 _)).fresh hom (n := wr.heap.size) (fun g hg => HFR1.out.blk hg) (fun g hg => by omega)
        have HIN2 := Lib.hid hIN2
        have HM2 := Lib.hid hm2
        have HME := Lib.hid hme
        have HOM := Lib.hid hom
        have HF2 := Lib.hid hF
        have HW2 := Lib.hid hW2
        clear hm2 hme hom hfm hF hW2 hIN2
        have f0 := ((HW2.out).cell (p := ⟨g, o + k * 8 + 0, none⟩) hg).trans e0
        have f1 := ((HW2.out).cell (p := ⟨g, o + k * 8 + 1, none⟩) hg).trans e1
        have f2 := ((HW2.out).cell (p := ⟨g, o + k * 8 + 2, none⟩) hg).trans e2
        have f3 := ((HW2.out).cell (p := ⟨g, o + k * 8 + 3, none⟩) hg).trans e3
        have f4 := ((HW2.out).cell (p := ⟨g, o + k * 8 + 4, none⟩) hg).trans e4
        have f5 := ((HW2.out).cell (p := ⟨g, o + k * 8 + 5, none⟩) hg).trans e5
        have f6 := ((HW2.out).cell (p := ⟨g, o + k * 8 + 6, none⟩) hg).trans e6
        have f7 := ((HW2.out).cell (p := ⟨g, o + k * 8 + 7, none⟩) hg).trans e7
        simp only [Nat.add_zero] at f0
        go_wp2_with fail
        refine (HPK.out kind _).mono ?_
        rintro e w' ⟨rfl, rfl⟩
        rw [show pickI kind 6 = 2 from HPA.out]
        have hRA : Calls Tryd.prog 28 #[.pointer (some ⟨bo, 0, none⟩), .int .i64 ac, .agg #[.int .i64 xk, .int .i64 xn, .int .i64 xi, .string xt, .slice xA xr.length xc]] w2.drew (RrPost w2.drew bo v l (refE (conM l) ⟨kind, ac, n, ⟨xk, xn, xi, xt, xA, xc, xr⟩⟩) (refM (conM l) ⟨kind, ac, n, ⟨xk, xn, xi, xt, xA, xc, xr⟩⟩)) := by
          unfold refE refM
          dsimp only
          rw [show pickI kind 6 = _ from HPA.out, if_pos (show ((2 : Int) < 3) by decide), if_pos (show ((2 : Int) < 3) by decide)]
          exact rset_any HF2.out.1.drew ac ⟨xk, xn, xi, xt, xA, xc, xr⟩ (ha.rs.up HW2.out.drew) (Nat.le_trans ha.l (by omega)) (fun s hs => Nat.le_trans (ha.s s hs) (by omega)) (Nat.le_trans ha.t (by omega)) (by omega)
        have HRA := Lib.hid hRA
        clear hRA
        go_wp2_with fail
        have C1 : ∀ x : UpW w.heap.size w2, x.w.cell? ⟨g, o + k * 8 + 1, none⟩ = _ := fun x => (x.up.cell (p := ⟨g, o + k * 8 + 1, none⟩) hg).trans f1
        have C3 : ∀ x : UpW w.heap.size w2, x.w.cell? ⟨g, o + k * 8 + 3, none⟩ = _ := fun x => (x.up.cell (p := ⟨g, o + k * 8 + 3, none⟩) hg).trans f3
        have C4 : ∀ x : UpW w.heap.size w2, x.w.cell? ⟨g, o + k * 8 + 4, none⟩ = _ := fun x => (x.up.cell (p := ⟨g, o + k * 8 + 4, none⟩) hg).trans f4
        have C5 : ∀ x : UpW w.heap.size w2, x.w.cell? ⟨g, o + k * 8 + 5, none⟩ = _ := fun x => (x.up.cell (p := ⟨g, o + k * 8 + 5, none⟩) hg).trans f5
        have C6 : ∀ x : UpW w.heap.size w2, x.w.cell? ⟨g, o + k * 8 + 6, none⟩ = _ := fun x => (x.up.cell (p := ⟨g, o + k * 8 + 6, none⟩) hg).trans f6
        have C7 : ∀ x : UpW w.heap.size w2, x.w.cell? ⟨g, o + k * 8 + 7, none⟩ = _ := fun x => (x.up.cell (p := ⟨g, o + k * 8 + 7, none⟩) hg).trans f7
        refine wp_region_mixT w.heap.size 12 (.one [0, 1, 2, 3, 4, 5, 6, 7, 8, 9, 10] 11 (.done [])) (by kernel_rfl) (fun c d v a w h => by cases d <;> exact h) (by kernel_rfl) ?_
        simp only [wpMixT, pk_nil, pk_cons, pushAt_zero, pushAt_succ, List.drop_succ_cons, List.drop_zero]
        repeat (go_big_quiet_step (fail))
        refine wpQuiet_nil ?_
        clear C1 C3 C4 C5 C6 C7
        go_wp2_with fail
        refine HRA.out.mono ?_
        rintro e w3 ⟨v3, l3, rfl, hR3, hle, hol, hfl, hvl⟩
        have hol2 : Only (fun k => k = bo ∨ v.ownBlock = some k) w2 w3 := (Only.refl _ w2).drew.trans hol
        have hb3 : Below w.heap.size w2 w3 := hol2.below HW2.out.size (fun k hk => hk.elim (fun e => by have := T.b3; omega) (fun e => T.b4 k e))
        have hEr := T.rel.err ⟨kind, ac, n, ⟨xk, xn, xi, xt, xA, xc, xr⟩⟩
        have hRS := T.rel.step ⟨kind, ac, n, ⟨xk, xn, xi, xt, xA, xc, xr⟩⟩
        have hLn := refM_len (lc := conM l) ⟨kind, ac, n, ⟨xk, xn, xi, xt, xA, xc, xr⟩⟩
        rw [← HME.out, ← hle] at hRS
        rw [← hle, conM_length, conM_length] at hLn
        have hT3 := HT1.out.second HOM.out HM2.out HF2.out.2 hRS hR3 hol2 hfl hvl
        have hz3 := hol2.size
        have z0 := (hol2.cell (k := w1.heap.size) (o := 0) (by omega) (fun e => e.elim (fun e => by have := T.i2.lt; omega) (fun e => by have := T.i2.own.lt e; omega))).trans y0
        have z1 := (hol2.cell (k := w1.heap.size) (o := 1) (by omega) (fun e => e.elim (fun e => by have := T.i2.lt; omega) (fun e => by have := T.i2.own.lt e; omega))).trans y1
        have z2 := (hol2.cell (k := w1.heap.size) (o := 2) (by omega) (fun e => e.elim (fun e => by have := T.i2.lt; omega) (fun e => by have := T.i2.own.lt e; omega))).trans y2
        have z3 := (hol2.cell (k := w1.heap.size) (o := 3) (by omega) (fun e => e.elim (fun e => by have := T.i2.lt; omega) (fun e => by have := T.i2.own.lt e; omega))).trans y3
        have z4 := (hol2.cell (k := w1.heap.size) (o := 4) (by omega) (fun e => e.elim (fun e => by have := T.i2.lt; omega) (fun e => by have := T.i2.own.lt e; omega))).trans y4
        have HIN3 := Lib.hid (HIN2.out.fresh hol2 (n := wr.heap.size) (fun g hg => HFR1.out.blk hg) (fun g hg => hg.elim (fun e => by have := T.i2.lt; omega) (fun e => T.i2.own.lt e)))
        have HT3 := Lib.hid hT3
        have HW3 := Lib.hid (HW2.out.trans (hb3.mono (Nat.le_refl _)))
        have HB3 := Lib.hid hb3
        have HEr := Lib.hid hEr
        have hm3 : m2.length ≤ 1000000 := by have := hRS.len; rw [conM_length, conM_length] at this; omega
        have hl3 : l3.length ≤ k + 1 := by omega
        clear hR3 hle hol hol2 hfl hvl hT3 hb3 hEr hRS hLn y0 y1 y2 y3 y4
        have f1' := ((HB3.out).cell (p := ⟨g, o + k * 8 + 1, none⟩) hg).trans f1
        have hz3b := hz3
        go_wp2_with fail
        refine thenQ_normal ⟨⟨⟨_, HB3.out⟩, rfl⟩, ?_⟩
        refine wpQuiet_nil ?_
        clear f0 f1 f2 f3 f4 f5 f6 f7
        go_wp2_with fail
        refine (get_con HT3.out.i1 ac).mono ?_
        rintro e w4 ⟨⟨k4, n4, d4, t4, A4, c4, r4⟩, is4, rfl, hin4, hfr4, hb4, hy4, hs4⟩
        have hbW4 := up2 hb4 (below1 w4 (.cells #[.int .i64 k4, .int .i64 n4, .int .i64 d4, .string t4, .slice A4 r4.length c4] 56))
        have hz4 := hb4.size
        have zb0 := (hbW4.cell (p := ⟨w1.heap.size, 0, none⟩) (show w1.heap.size < w3.heap.size by omega)).trans z0
        have zb1 := (hbW4.cell (p := ⟨w1.heap.size, 1, none⟩) (show w1.heap.size < w3.heap.size by omega)).trans z1
        have zb2 := (hbW4.cell (p := ⟨w1.heap.size, 2, none⟩) (show w1.heap.size < w3.heap.size by omega)).trans z2
        have zb3 := (hbW4.cell (p := ⟨w1.heap.size, 3, none⟩) (show w1.heap.size < w3.heap.size by omega)).trans z3
        have zb4 := (hbW4.cell (p := ⟨w1.heap.size, 4, none⟩) (show w1.heap.size < w3.heap.size by omega)).trans z4
        have g1 := ((hbW4.mono (Nat.le_trans HW3.out.size (Nat.le_refl _))).cell (p := ⟨g, o + k * 8 + 1, none⟩) hg).trans f1'
        have HIN4 := Lib.hid (hin4.up (below1 w4 (.cells #[.int .i64 k4, .int .i64 n4, .int .i64 d4, .string t4, .slice A4 r4.length c4] 56)))
        have HY4 := Lib.hid hy4
        have HS4 := Lib.hid hs4
        have HBW4 := Lib.hid hbW4
        clear hin4 hfr4 hb4 hy4 hs4 hbW4 z0 z1 z2 z3 z4 f1'
        go_wp2_with fail
        refine (rget_con (HT3.out.i2.up HBW4.out) ac (by omega)).mono ?_
        rintro e w5 ⟨⟨k5, n5, d5, t5, A5, c5, r5⟩, is5, rfl, hin5, hfr5, hb5, hy5, hs5⟩
        have hbW5 := up2 hb5 (below1 w5 (.cells #[.int .i64 k5, .int .i64 n5, .int .i64 d5, .string t5, .slice A5 r5.length c5] 56))
        have hz5 := hb5.size
        simp at hz5
        have xb0 := hbW5.cell (p := ⟨w4.heap.size, 0, none⟩) (by simp)
        have xb1 := hbW5.cell (p := ⟨w4.heap.size, 1, none⟩) (by simp)
        have xb2 := hbW5.cell (p := ⟨w4.heap.size, 2, none⟩) (by simp)
        have xb3 := hbW5.cell (p := ⟨w4.heap.size, 3, none⟩) (by simp)
        have xb4 := hbW5.cell (p := ⟨w4.heap.size, 4, none⟩) (by simp)
        simp at xb0 xb1 xb2 xb3 xb4
        have zc0 := (hbW5.cell (p := ⟨w1.heap.size, 0, none⟩) (by simp; omega)).trans zb0
        have zc1 := (hbW5.cell (p := ⟨w1.heap.size, 1, none⟩) (by simp; omega)).trans zb1
        have zc2 := (hbW5.cell (p := ⟨w1.heap.size, 2, none⟩) (by simp; omega)).trans zb2
        have zc3 := (hbW5.cell (p := ⟨w1.heap.size, 3, none⟩) (by simp; omega)).trans zb3
        have zc4 := (hbW5.cell (p := ⟨w1.heap.size, 4, none⟩) (by simp; omega)).trans zb4
        have h0w4 := Nat.le_trans HW3.out.size hz4
        have g2 := ((hbW5.mono (show w.heap.size ≤ _ by simp; omega)).cell (p := ⟨g, o + k * 8 + 1, none⟩) hg).trans g1
        have HIN5 := Lib.hid (hin5.up (below1 w5 (.cells #[.int .i64 k5, .int .i64 n5, .int .i64 d5, .string t5, .slice A5 r5.length c5] 56)))
        have HY5 := Lib.hid hy5
        have HS5 := Lib.hid hs5
        have HBW5 := Lib.hid hbW5
        clear hin5 hfr5 hb5 hy5 hs5 hbW5 zb0 zb1 zb2 zb3 zb4 g1
        go_wp2_with fail
        refine (get_con ((HT3.out.i1.up HBW4.out).up HBW5.out) cc).mono ?_
        rintro e w6 ⟨⟨k6, n6, d6, t6, A6, c6, r6⟩, is6, rfl, hin6, hfr6, hb6, hy6, hs6⟩
        have hbW6 := up2 hb6 (below1 w6 (.cells #[.int .i64 k6, .int .i64 n6, .int .i64 d6, .string t6, .slice A6 r6.length c6] 56))
        have hz6 := hb6.size
        simp at hz6
        have vb0 := hbW6.cell (p := ⟨w5.heap.size, 0, none⟩) (by simp)
        have vb1 := hbW6.cell (p := ⟨w5.heap.size, 1, none⟩) (by simp)
        have vb2 := hbW6.cell (p := ⟨w5.heap.size, 2, none⟩) (by simp)
        have vb3 := hbW6.cell (p := ⟨w5.heap.size, 3, none⟩) (by simp)
        have vb4 := hbW6.cell (p := ⟨w5.heap.size, 4, none⟩) (by simp)
        simp at vb0 vb1 vb2 vb3 vb4
        have xc0 := (hbW6.cell (p := ⟨w4.heap.size, 0, none⟩) (by simp; omega)).trans xb0
        have xc1 := (hbW6.cell (p := ⟨w4.heap.size, 1, none⟩) (by simp; omega)).trans xb1
        have xc2 := (hbW6.cell (p := ⟨w4.heap.size, 2, none⟩) (by simp; omega)).trans xb2
        have xc3 := (hbW6.cell (p := ⟨w4.heap.size, 3, none⟩) (by simp; omega)).trans xb3
        have xc4 := (hbW6.cell (p := ⟨w4.heap.size, 4, none⟩) (by simp; omega)).trans xb4
        have zd0 := (hbW6.cell (p := ⟨w1.heap.size, 0, none⟩) (by simp; omega)).trans zc0
        have zd1 := (hbW6.cell (p := ⟨w1.heap.size, 1, none⟩) (by simp; omega)).trans zc1
        have zd2 := (hbW6.cell (p := ⟨w1.heap.size, 2, none⟩) (by simp; omega)).trans zc2
        have zd3 := (hbW6.cell (p := ⟨w1.heap.size, 3, none⟩) (by simp; omega)).trans zc3
        have zd4 := (hbW6.cell (p := ⟨w1.heap.size, 4, none⟩) (by simp; omega)).trans zc4
        have g3 := ((hbW6.mono (show w.heap.size ≤ _ by simp; omega)).cell (p := ⟨g, o + k * 8 + 1, none⟩) hg).trans g2
        have HIN6 := Lib.hid (hin6.up (below1 w6 (.cells #[.int .i64 k6, .int .i64 n6, .int .i64 d6, .string t6, .slice A6 r6.length c6] 56)))
        have HY6 := Lib.hid hy6
        have HS6 := Lib.hid hs6
        have HBW6 := Lib.hid hbW6
        have he45 : is5 = is4 := by rw [HS4.out, HS5.out, ← HT3.out.rel.eq]
        subst he45
        have d0 := bne_self is5
        rw [HEr.out]
        have d1 : (refE (conM l) ⟨kind, ac, n, ⟨xk, xn, xi, xt, xA, xc, xr⟩⟩ != refE (conM l) ⟨kind, ac, n, ⟨xk, xn, xi, xt, xA, xc, xr⟩⟩) = false := by simp
        have HSA := Lib.hid (same_true ((HIN4.out.up HBW5.out).up hbW6) (HIN5.out.up hbW6) (by rw [HY4.out, HY5.out, HT3.out.rel.eq]) (by have := con_rows HT3.out.i1 ac; rw [← HY4.out] at this; exact this))
        have HT6 := Lib.hid (((HT3.out.up HBW4.out).up HBW5.out).up hbW6)
        clear hin6 hfr6 hb6 hy6 hs6 hbW6 zc0 zc1 zc2 zc3 zc4 xb0 xb1 xb2 xb3 xb4 g2
        go_wp2_with fail
        refine HSA.out.mono ?_
        rintro e w7 ⟨rfl, hb7⟩
        have hT7 := HT6.out.up hb7
        have hNM := names_any hT7.i1 hm3 (ks := l3.map (·.1)) (by have := hT7.rel.keys; unfold conM at this; rwa [List.map_map, List.map_map] at this) hT7.i2.sorted
        have HNM := Lib.hid hNM
        have HT7 := Lib.hid hT7
        have HB7 := Lib.hid hb7
        clear hNM hT7
        go_wp2_with fail
        refine HNM.out.mono ?_
        rintro e w8 ⟨v8, rfl, hown8, hb8⟩
        obtain ⟨A8, c8, rfl, _, _, hr8⟩ := hown8.shape eltI
        have HR8 := Lib.hid hr8
        have HB8 := Lib.hid hb8
        have HRN := Lib.hid (rnames_any (HT7.out.i2.up hb8) (by omega))
        clear hown8 hr8
        go_wp2_with fail
        refine HRN.out.mono ?_
        rintro e w9 ⟨v9, rfl, hown9, hb9⟩
        obtain ⟨A9, c9, rfl, _, _, hr9⟩ := hown9.shape eltI
        have hsi := sameI_true c8 c9 (HR8.out.up hb9) hr9 (by simp; omega)
        rw [List.length_map] at hsi
        have HSI := Lib.hid hsi
        clear hsi
        have HB9 := Lib.hid hb9
        clear hown9 hr9
        go_wp2_with fail
        refine HSI.out.mono ?_
        rintro e wa ⟨rfl, hba⟩
        have hba9 := up2 (up2 (up2 hb7 hb8) hb9) hba
        have hza := hba9.size
        simp at hza
        have g4 := ((hba9.mono (show w.heap.size ≤ _ by simp; omega)).cell (p := ⟨g, o + k * 8 + 1, none⟩) hg).trans g3
        have ze0 := (hba9.cell (p := ⟨w1.heap.size, 0, none⟩) (by simp; omega)).trans zd0
        have ze1 := (hba9.cell (p := ⟨w1.heap.size, 1, none⟩) (by simp; omega)).trans zd1
        have ze2 := (hba9.cell (p := ⟨w1.heap.size, 2, none⟩) (by simp; omega)).trans zd2
        have ze3 := (hba9.cell (p := ⟨w1.heap.size, 3, none⟩) (by simp; omega)).trans zd3
        have ze4 := (hba9.cell (p := ⟨w1.heap.size, 4, none⟩) (by simp; omega)).trans zd4
        have ub0 := hba9.cell (p := ⟨w6.heap.size, 0, none⟩) (by simp)
        have ub1 := hba9.cell (p := ⟨w6.heap.size, 1, none⟩) (by simp)
        have ub2 := hba9.cell (p := ⟨w6.heap.size, 2, none⟩) (by simp)
        have ub3 := hba9.cell (p := ⟨w6.heap.size, 3, none⟩) (by simp)
        have ub4 := hba9.cell (p := ⟨w6.heap.size, 4, none⟩) (by simp)
        simp at ub0 ub1 ub2 ub3 ub4
        have hWa := (((HBW4.out.trans (HBW5.out.mono HBW4.out.size)).trans (HBW6.out.mono (by have := HBW4.out.size; have := HBW5.out.size; omega))).trans (hba9.mono (by have := HBW4.out.size; have := HBW5.out.size; have := HBW6.out.size; omega)))
        have HTa := Lib.hid (HT3.out.up hWa)
        have HWa := Lib.hid (HW3.out.trans (hWa.mono HW3.out.size))
        have HINa := Lib.hid (HIN3.out.up hWa)
        have HI6a := Lib.hid (HIN6.out.up hba9)
        clear hb7 hb8 hb9 hba hba9 hWa g3 zd0 zd1 zd2 zd3 zd4 xc0 xc1 xc2 xc3 xc4 vb0 vb1 vb2 vb3 vb4
        by_cases hcc : cc = ac
        · have dc : (cc != ac) = false := by simpa using hcc
          clear hcc ze0 ze1 ze2 ze3 ze4 ub0 ub1 ub2 ub3 ub4
          go_wp2_with fail
          go_roundw
          case rel => exact ⟨k + 1, m2, v3, l3, by omega, by go_num, HTa.out, hl3, HWa.out⟩
          case measure => simp [intOf]; omega
        · have dc : (cc != ac) = true := by simpa using hcc
          have hoth := callM_other (mc := conM m) ⟨kind, ac, n, ⟨xk, xn, xi, xt, xA, xc, xr⟩⟩ (k := cc) hcc
          rw [← HME.out] at hoth
          have he16 : is6 = is1 := by rw [HS1.out, HS6.out, hoth]
          subst he16
          have d2 := bne_self is6
          have HSB := Lib.hid (same_true HINa.out HI6a.out (by rw [HY1.out, HY6.out, hoth]) (by have := con_rows T.i1 cc; rw [← HY1.out] at this; exact this))
          clear hcc hoth
          go_wp2_with fail
          refine HSB.out.mono ?_
          rintro e wb ⟨rfl, hbb⟩
          have HTb := Lib.hid (HTa.out.up hbb)
          have HWb := Lib.hid (HWa.out.trans (hbb.mono HWa.out.size))
          clear ze0 ze1 ze2 ze3 ze4 ub0 ub1 ub2 ub3 ub4 hbb
          go_wp2_with fail
          go_roundw
          case rel => exact ⟨k + 1, m2, v3, l3, by omega, by go_num, HTb.out, hl3, HWb.out⟩
          case measure => simp [intOf]; omega
      · have HPA := Lib.hid hpa
        clear hpa hp
        go_wp2_with fail
        refine (get_con T.i1 cc).mono ?_
        rintro e w1 ⟨⟨k1, n1, d1, t1, A1, c1, r1⟩, is1, rfl, hin1, hfr1, hb1, hy1, hs1⟩
        have hbW := up2 hb1 (below1 w1 (.cells #[.int .i64 k1, .int .i64 n1, .int .i64 d1, .string t1, .slice A1 r1.length c1] 56))
        have T1 := T.up hbW
        have hWw := hbel.trans (hbW.mono hbel.size)
        have hz1 := hb1.size
        have hCA := call_any T1.i1 a (ha.up hWw) (hT.up hWw) hWw.size
        obtain ⟨kind, ac, n, ⟨xk, xn, xi, xt, xA, xc, xr⟩⟩ := a
        have HCA := Lib.hid hCA
        have HIN1 := Lib.hid hin1
        have HFR1 := Lib.hid hfr1
        have HY1 := Lib.hid hy1
        have HS1 := Lib.hid hs1
        have HT1 := Lib.hid T1
        have HWW := Lib.hid hWw
        have HBW := Lib.hid hbW
        clear hCA hin1 hfr1 hy1 hs1 T1 hWw hbW hb1
        have w1e0 := ((HWW.out).cell (p := ⟨g, o + k * 8 + 0, none⟩) hg).trans e0
        have w1e1 := ((HWW.out).cell (p := ⟨g, o + k * 8 + 1, none⟩) hg).trans e1
        have w1e2 := ((HWW.out).cell (p := ⟨g, o + k * 8 + 2, none⟩) hg).trans e2
        have w1e3 := ((HWW.out).cell (p := ⟨g, o + k * 8 + 3, none⟩) hg).trans e3
        have w1e4 := ((HWW.out).cell (p := ⟨g, o + k * 8 + 4, none⟩) hg).trans e4
        have w1e5 := ((HWW.out).cell (p := ⟨g, o + k * 8 + 5, none⟩) hg).trans e5
        have w1e6 := ((HWW.out).cell (p := ⟨g, o + k * 8 + 6, none⟩) hg).trans e6
        have w1e7 := ((HWW.out).cell (p := ⟨g, o + k * 8 + 7, none⟩) hg).trans e7
        simp only [Nat.add_zero] at w1e0
        go_wp2_with fail
        refine HCA.out.mono ?_
        rintro e w2 ⟨m2, rfl, hm2, hme, hom, hfm⟩
        clear w1e0 w1e1 w1e2 w1e3 w1e4 w1e5 w1e6 w1e7
        have hF := HT1.out.first hm2 hom hfm
        have hbm := T.b2
        have hW2 : Below w.heap.size w w2 := HWW.out.trans (hom.below HWW.out.size (fun k hk => by omega))
        have hz2 := hom.size
        simp at hz2
        have hbmr := T.i1.im.lt
        have y0 := (hom.cell (k := w1.heap.size) (o := 0) (by simp) (fun e => by omega))
        have y1 := (hom.cell (k := w1.heap.size) (o := 1) (by simp) (fun e => by omega))
        have y2 := (hom.cell (k := w1.heap.size) (o := 2) (by simp) (fun e => by omega))
        have y3 := (hom.cell (k := w1.heap.size) (o := 3) (by simp) (fun e => by omega))
        have y4 := (hom.cell (k := w1.heap.size) (o := 4) (by simp) (fun e => by omega))
        simp at y0 y1 y2 y3 y4
        have hIN2 := (HIN1.out.up (below1 w1 _)).fresh hom (n := wr.heap.size) (fun g hg => HFR1.out.blk hg) (fun g hg => by omega)
        have HIN2 := Lib.hid hIN2
        have HM2 := Lib.hid hm2
        have HME := Lib.hid hme
        have HOM := Lib.hid hom
        have HF2 := Lib.hid hF
        have HW2 := Lib.hid hW2
        clear hm2 hme hom hfm hF hW2 hIN2
        have f0 := ((HW2.out).cell (p := ⟨g, o + k * 8 + 0, none⟩) hg).trans e0
        have f1 := ((HW2.out).cell (p := ⟨g, o + k * 8 + 1, none⟩) hg).trans e1
        have f2 := ((HW2.out).cell (p := ⟨g, o + k * 8 + 2, none⟩) hg).trans e2
        have f3 := ((HW2.out).cell (p := ⟨g, o + k * 8 + 3, none⟩) hg).trans e3
        have f4 := ((HW2.out).cell (p := ⟨g, o + k * 8 + 4, none⟩) hg).trans e4
        have f5 := ((HW2.out).cell (p := ⟨g, o + k * 8 + 5, none⟩) hg).trans e5
        have f6 := ((HW2.out).cell (p := ⟨g, o + k * 8 + 6, none⟩) hg).trans e6
        have f7 := ((HW2.out).cell (p := ⟨g, o + k * 8 + 7, none⟩) hg).trans e7
        simp only [Nat.add_zero] at f0
        go_wp2_with fail
        refine (HPK.out kind _).mono ?_
        rintro e w' ⟨rfl, rfl⟩
        rw [show pickI kind 6 = 3 from HPA.out]
        have hRA : Calls Tryd.prog 29 #[.pointer (some ⟨bo, 0, none⟩), .int .i64 ac] w2 (RrPost w2 bo v l (refE (conM l) ⟨kind, ac, n, ⟨xk, xn, xi, xt, xA, xc, xr⟩⟩) (refM (conM l) ⟨kind, ac, n, ⟨xk, xn, xi, xt, xA, xc, xr⟩⟩)) := by
          unfold refE refM
          dsimp only
          rw [show pickI kind 6 = _ from HPA.out, if_neg (show ¬ ((3 : Int) < 3) by decide), if_neg (show ¬ ((3 : Int) < 3) by decide), if_pos (rfl : (3 : Int) = 3), if_pos (rfl : (3 : Int) = 3)]
          exact rgdrop_any HF2.out.1 ac (by omega)
        have HRA := Lib.hid hRA
        clear hRA
        go_wp2_with fail
        refine HRA.out.mono ?_
        rintro e w3 ⟨v3, l3, rfl, hR3, hle, hol, hfl, hvl⟩
        have hol2 : Only (fun k => k = bo ∨ v.ownBlock = some k) w2 w3 := hol
        have hb3 : Below w.heap.size w2 w3 := hol2.below HW2.out.size (fun k hk => hk.elim (fun e => by have := T.b3; omega) (fun e => T.b4 k e))
        have hEr := T.rel.err ⟨kind, ac, n, ⟨xk, xn, xi, xt, xA, xc, xr⟩⟩
        have hRS := T.rel.step ⟨kind, ac, n, ⟨xk, xn, xi, xt, xA, xc, xr⟩⟩
        have hLn := refM_len (lc := conM l) ⟨kind, ac, n, ⟨xk, xn, xi, xt, xA, xc, xr⟩⟩
        rw [← HME.out, ← hle] at hRS
        rw [← hle, conM_length, conM_length] at hLn
        have hT3 := HT1.out.second HOM.out HM2.out HF2.out.2 hRS hR3 hol2 hfl hvl
        have hz3 := hol2.size
        have z0 := (hol2.cell (k := w1.heap.size) (o := 0) (by omega) (fun e => e.elim (fun e => by have := T.i2.lt; omega) (fun e => by have := T.i2.own.lt e; omega))).trans y0
        have z1 := (hol2.cell (k := w1.heap.size) (o := 1) (by omega) (fun e => e.elim (fun e => by have := T.i2.lt; omega) (fun e => by have := T.i2.own.lt e; omega))).trans y1
        have z2 := (hol2.cell (k := w1.heap.size) (o := 2) (by omega) (fun e => e.elim (fun e => by have := T.i2.lt; omega) (fun e => by have := T.i2.own.lt e; omega))).trans y2
        have z3 := (hol2.cell (k := w1.heap.size) (o := 3) (by omega) (fun e => e.elim (fun e => by have := T.i2.lt; omega) (fun e => by have := T.i2.own.lt e; omega))).trans y3
        have z4 := (hol2.cell (k := w1.heap.size) (o := 4) (by omega) (fun e => e.elim (fun e => by have := T.i2.lt; omega) (fun e => by have := T.i2.own.lt e; omega))).trans y4
        have HIN3 := Lib.hid (HIN2.out.fresh hol2 (n := wr.heap.size) (fun g hg => HFR1.out.blk hg) (fun g hg => hg.elim (fun e => by have := T.i2.lt; omega) (fun e => T.i2.own.lt e)))
        have HT3 := Lib.hid hT3
        have HW3 := Lib.hid (HW2.out.trans (hb3.mono (Nat.le_refl _)))
        have HB3 := Lib.hid hb3
        have HEr := Lib.hid hEr
        have hm3 : m2.length ≤ 1000000 := by have := hRS.len; rw [conM_length, conM_length] at this; omega
        have hl3 : l3.length ≤ k + 1 := by omega
        clear hR3 hle hol hol2 hfl hvl hT3 hb3 hEr hRS hLn y0 y1 y2 y3 y4
        have f1' := ((HB3.out).cell (p := ⟨g, o + k * 8 + 1, none⟩) hg).trans f1
        clear f0 f1 f2 f3 f4 f5 f6 f7
        go_wp2_with fail
        refine (get_con HT3.out.i1 ac).mono ?_
        rintro e w4 ⟨⟨k4, n4, d4, t4, A4, c4, r4⟩, is4, rfl, hin4, hfr4, hb4, hy4, hs4⟩
        have hbW4 := up2 hb4 (below1 w4 (.cells #[.int .i64 k4, .int .i64 n4, .int .i64 d4, .string t4, .slice A4 r4.length c4] 56))
        have hz4 := hb4.size
        have zb0 := (hbW4.cell (p := ⟨w1.heap.size, 0, none⟩) (show w1.heap.size < w3.heap.size by omega)).trans z0
        have zb1 := (hbW4.cell (p := ⟨w1.heap.size, 1, none⟩) (show w1.heap.size < w3.heap.size by omega)).trans z1
        have zb2 := (hbW4.cell (p := ⟨w1.heap.size, 2, none⟩) (show w1.heap.size < w3.heap.size by omega)).trans z2
        have zb3 := (hbW4.cell (p := ⟨w1.heap.size, 3, none⟩) (show w1.heap.size < w3.heap.size by omega)).trans z3
        have zb4 := (hbW4.cell (p := ⟨w1.heap.size, 4, none⟩) (show w1.heap.size < w3.heap.size by omega)).trans z4
        have g1 := ((hbW4.mono (Nat.le_trans HW3.out.size (Nat.le_refl _))).cell (p := ⟨g, o + k * 8 + 1, none⟩) hg).trans f1'
        have HIN4 := Lib.hid (hin4.up (below1 w4 (.cells #[.int .i64 k4, .int .i64 n4, .int .i64 d4, .string t4, .slice A4 r4.length c4] 56)))
        have HY4 := Lib.hid hy4
        have HS4 := Lib.hid hs4
        have HBW4 := Lib.hid hbW4
        clear hin4 hfr4 hb4 hy4 hs4 hbW4 z0 z1 z2 z3 z4 f1'
        go_wp2_with fail
        refine (rget_con (HT3.out.i2.up HBW4.out) ac (by omega)).mono ?_
        rintro e w5 ⟨⟨k5, n5, d5, t5, A5, c5, r5⟩, is5, rfl, hin5, hfr5, hb5, hy5, hs5⟩
        have hbW5 := up2 hb5 (below1 w5 (.cells #[.int .i64 k5, .int .i64 n5, .int .i64 d5, .string t5, .slice A5 r5.length c5] 56))
        have hz5 := hb5.size
        simp at hz5
        have xb0 := hbW5.cell (p := ⟨w4.heap.size, 0, none⟩) (by simp)
        have xb1 := hbW5.cell (p := ⟨w4.heap.size, 1, none⟩) (by simp)
        have xb2 := hbW5.cell (p := ⟨w4.heap.size, 2, none⟩) (by simp)
        have xb3 := hbW5.cell (p := ⟨w4.heap.size, 3, none⟩) (by simp)
        have xb4 := hbW5.cell (p := ⟨w4.heap.size, 4, none⟩) (by simp)
        simp at xb0 xb1 xb2 xb3 xb4
        have zc0 := (hbW5.cell (p := ⟨w1.heap.size, 0, none⟩) (by simp; omega)).trans zb0
        have zc1 := (hbW5.cell (p := ⟨w1.heap.size, 1, none⟩) (by simp; omega)).trans zb1
        have zc2 := (hbW5.cell (p := ⟨w1.heap.size, 2, none⟩) (by simp; omega)).trans zb2
        have zc3 := (hbW5.cell (p := ⟨w1.heap.size, 3, none⟩) (by simp; omega)).trans zb3
        have zc4 := (hbW5.cell (p := ⟨w1.heap.size, 4, none⟩) (by simp; omega)).trans zb4
        have h0w4 := Nat.le_trans HW3.out.size hz4
        have g2 := ((hbW5.mono (show w.heap.size ≤ _ by simp; omega)).cell (p := ⟨g, o + k * 8 + 1, none⟩) hg).trans g1
        have HIN5 := Lib.hid (hin5.up (below1 w5 (.cells #[.int .i64 k5, .int .i64 n5, .int .i64 d5, .string t5, .slice A5 r5.length c5] 56)))
        have HY5 := Lib.hid hy5
        have HS5 := Lib.hid hs5
        have HBW5 := Lib.hid hbW5
        clear hin5 hfr5 hb5 hy5 hs5 hbW5 zb0 zb1 zb2 zb3 zb4 g1
        go_wp2_with fail
        refine (get_con ((HT3.out.i1.up HBW4.out).up HBW5.out) cc).mono ?_
        rintro e w6 ⟨⟨k6, n6, d6, t6, A6, c6, r6⟩, is6, rfl, hin6, hfr6, hb6, hy6, hs6⟩
        have hbW6 := up2 hb6 (below1 w6 (.cells #[.int .i64 k6, .int .i64 n6, .int .i64 d6, .string t6, .slice A6 r6.length c6] 56))
        have hz6 := hb6.size
        simp at hz6
        have vb0 := hbW6.cell (p := ⟨w5.heap.size, 0, none⟩) (by simp)
        have vb1 := hbW6.cell (p := ⟨w5.heap.size, 1, none⟩) (by simp)
        have vb2 := hbW6.cell (p := ⟨w5.heap.size, 2, none⟩) (by simp)
        have vb3 := hbW6.cell (p := ⟨w5.heap.size, 3, none⟩) (by simp)
        have vb4 := hbW6.cell (p := ⟨w5.heap.size, 4, none⟩) (by simp)
        simp at vb0 vb1 vb2 vb3 vb4
        have xc0 := (hbW6.cell (p := ⟨w4.heap.size, 0, none⟩) (by simp; omega)).trans xb0
        have xc1 := (hbW6.cell (p := ⟨w4.heap.size, 1, none⟩) (by simp; omega)).trans xb1
        have xc2 := (hbW6.cell (p := ⟨w4.heap.size, 2, none⟩) (by simp; omega)).trans xb2
        have xc3 := (hbW6.cell (p := ⟨w4.heap.size, 3, none⟩) (by simp; omega)).trans xb3
        have xc4 := (hbW6.cell (p := ⟨w4.heap.size, 4, none⟩) (by simp; omega)).trans xb4
        have zd0 := (hbW6.cell (p := ⟨w1.heap.size, 0, none⟩) (by simp; omega)).trans zc0
        have zd1 := (hbW6.cell (p := ⟨w1.heap.size, 1, none⟩) (by simp; omega)).trans zc1
        have zd2 := (hbW6.cell (p := ⟨w1.heap.size, 2, none⟩) (by simp; omega)).trans zc2
        have zd3 := (hbW6.cell (p := ⟨w1.heap.size, 3, none⟩) (by simp; omega)).trans zc3
        have zd4 := (hbW6.cell (p := ⟨w1.heap.size, 4, none⟩) (by simp; omega)).trans zc4
        have g3 := ((hbW6.mono (show w.heap.size ≤ _ by simp; omega)).cell (p := ⟨g, o + k * 8 + 1, none⟩) hg).trans g2
        have HIN6 := Lib.hid (hin6.up (below1 w6 (.cells #[.int .i64 k6, .int .i64 n6, .int .i64 d6, .string t6, .slice A6 r6.length c6] 56)))
        have HY6 := Lib.hid hy6
        have HS6 := Lib.hid hs6
        have HBW6 := Lib.hid hbW6
        have he45 : is5 = is4 := by rw [HS4.out, HS5.out, ← HT3.out.rel.eq]
        subst he45
        have d0 := bne_self is5
        rw [HEr.out]
        have d1 : (refE (conM l) ⟨kind, ac, n, ⟨xk, xn, xi, xt, xA, xc, xr⟩⟩ != refE (conM l) ⟨kind, ac, n, ⟨xk, xn, xi, xt, xA, xc, xr⟩⟩) = false := by simp
        have HSA := Lib.hid (same_true ((HIN4.out.up HBW5.out).up hbW6) (HIN5.out.up hbW6) (by rw [HY4.out, HY5.out, HT3.out.rel.eq]) (by have := con_rows HT3.out.i1 ac; rw [← HY4.out] at this; exact this))
        have HT6 := Lib.hid (((HT3.out.up HBW4.out).up HBW5.out).up hbW6)
        clear hin6 hfr6 hb6 hy6 hs6 hbW6 zc0 zc1 zc2 zc3 zc4 xb0 xb1 xb2 xb3 xb4 g2
        go_wp2_with fail
        refine HSA.out.mono ?_
        rintro e w7 ⟨rfl, hb7⟩
        have hT7 := HT6.out.up hb7
        have hNM := names_any hT7.i1 hm3 (ks := l3.map (·.1)) (by have := hT7.rel.keys; unfold conM at this; rwa [List.map_map, List.map_map] at this) hT7.i2.sorted
        have HNM := Lib.hid hNM
        have HT7 := Lib.hid hT7
        have HB7 := Lib.hid hb7
        clear hNM hT7
        go_wp2_with fail
        refine HNM.out.mono ?_
        rintro e w8 ⟨v8, rfl, hown8, hb8⟩
        obtain ⟨A8, c8, rfl, _, _, hr8⟩ := hown8.shape eltI
        have HR8 := Lib.hid hr8
        have HB8 := Lib.hid hb8
        have HRN := Lib.hid (rnames_any (HT7.out.i2.up hb8) (by omega))
        clear hown8 hr8
        go_wp2_with fail
        refine HRN.out.mono ?_
        rintro e w9 ⟨v9, rfl, hown9, hb9⟩
        obtain ⟨A9, c9, rfl, _, _, hr9⟩ := hown9.shape eltI
        have hsi := sameI_true c8 c9 (HR8.out.up hb9) hr9 (by simp; omega)
        rw [List.length_map] at hsi
        have HSI := Lib.hid hsi
        clear hsi
        have HB9 := Lib.hid hb9
        clear hown9 hr9
        go_wp2_with fail
        refine HSI.out.mono ?_
        rintro e wa ⟨rfl, hba⟩
        have hba9 := up2 (up2 (up2 hb7 hb8) hb9) hba
        have hza := hba9.size
        simp at hza
        have g4 := ((hba9.mono (show w.heap.size ≤ _ by simp; omega)).cell (p := ⟨g, o + k * 8 + 1, none⟩) hg).trans g3
        have ze0 := (hba9.cell (p := ⟨w1.heap.size, 0, none⟩) (by simp; omega)).trans zd0
        have ze1 := (hba9.cell (p := ⟨w1.heap.size, 1, none⟩) (by simp; omega)).trans zd1
        have ze2 := (hba9.cell (p := ⟨w1.heap.size, 2, none⟩) (by simp; omega)).trans zd2
        have ze3 := (hba9.cell (p := ⟨w1.heap.size, 3, none⟩) (by simp; omega)).trans zd3
        have ze4 := (hba9.cell (p := ⟨w1.heap.size, 4, none⟩) (by simp; omega)).trans zd4
        have ub0 := hba9.cell (p := ⟨w6.heap.size, 0, none⟩) (by simp)
        have ub1 := hba9.cell (p := ⟨w6.heap.size, 1, none⟩) (by simp)
        have ub2 := hba9.cell (p := ⟨w6.heap.size, 2, none⟩) (by simp)
        have ub3 := hba9.cell (p := ⟨w6.heap.size, 3, none⟩) (by simp)
        have ub4 := hba9.cell (p := ⟨w6.heap.size, 4, none⟩) (by simp)
        simp at ub0 ub1 ub2 ub3 ub4
        have hWa := (((HBW4.out.trans (HBW5.out.mono HBW4.out.size)).trans (HBW6.out.mono (by have := HBW4.out.size; have := HBW5.out.size; omega))).trans (hba9.mono (by have := HBW4.out.size; have := HBW5.out.size; have := HBW6.out.size; omega)))
        have HTa := Lib.hid (HT3.out.up hWa)
        have HWa := Lib.hid (HW3.out.trans (hWa.mono HW3.out.size))
        have HINa := Lib.hid (HIN3.out.up hWa)
        have HI6a := Lib.hid (HIN6.out.up hba9)
        clear hb7 hb8 hb9 hba hba9 hWa g3 zd0 zd1 zd2 zd3 zd4 xc0 xc1 xc2 xc3 xc4 vb0 vb1 vb2 vb3 vb4
        by_cases hcc : cc = ac
        · have dc : (cc != ac) = false := by simpa using hcc
          clear hcc ze0 ze1 ze2 ze3 ze4 ub0 ub1 ub2 ub3 ub4
          go_wp2_with fail
          go_roundw
          case rel => exact ⟨k + 1, m2, v3, l3, by omega, by go_num, HTa.out, hl3, HWa.out⟩
          case measure => simp [intOf]; omega
        · have dc : (cc != ac) = true := by simpa using hcc
          have hoth := callM_other (mc := conM m) ⟨kind, ac, n, ⟨xk, xn, xi, xt, xA, xc, xr⟩⟩ (k := cc) hcc
          rw [← HME.out] at hoth
          have he16 : is6 = is1 := by rw [HS1.out, HS6.out, hoth]
          subst he16
          have d2 := bne_self is6
          have HSB := Lib.hid (same_true HINa.out HI6a.out (by rw [HY1.out, HY6.out, hoth]) (by have := con_rows T.i1 cc; rw [← HY1.out] at this; exact this))
          clear hcc hoth
          go_wp2_with fail
          refine HSB.out.mono ?_
          rintro e wb ⟨rfl, hbb⟩
          have HTb := Lib.hid (HTa.out.up hbb)
          have HWb := Lib.hid (HWa.out.trans (hbb.mono HWa.out.size))
          clear ze0 ze1 ze2 ze3 ze4 ub0 ub1 ub2 ub3 ub4 hbb
          go_wp2_with fail
          go_roundw
          case rel => exact ⟨k + 1, m2, v3, l3, by omega, by go_num, HTb.out, hl3, HWb.out⟩
          case measure => simp [intOf]; omega
      · have HPA := Lib.hid hpa
        clear hpa hp
        go_wp2_with fail
        refine (get_con T.i1 cc).mono ?_
        rintro e w1 ⟨⟨k1, n1, d1, t1, A1, c1, r1⟩, is1, rfl, hin1, hfr1, hb1, hy1, hs1⟩
        have hbW := up2 hb1 (below1 w1 (.cells #[.int .i64 k1, .int .i64 n1, .int .i64 d1, .string t1, .slice A1 r1.length c1] 56))
        have T1 := T.up hbW
        have hWw := hbel.trans (hbW.mono hbel.size)
        have hz1 := hb1.size
        have hCA := call_any T1.i1 a (ha.up hWw) (hT.up hWw) hWw.size
        obtain ⟨kind, ac, n, ⟨xk, xn, xi, xt, xA, xc, xr⟩⟩ := a
        have HCA := Lib.hid hCA
        have HIN1 := Lib.hid hin1
        have HFR1 := Lib.hid hfr1
        have HY1 := Lib.hid hy1
        have HS1 := Lib.hid hs1
        have HT1 := Lib.hid T1
        have HWW := Lib.hid hWw
        have HBW := Lib.hid hbW
        clear hCA hin1 hfr1 hy1 hs1 T1 hWw hbW hb1
        have w1e0 := ((HWW.out).cell (p := ⟨g, o + k * 8 + 0, none⟩) hg).trans e0
        have w1e1 := ((HWW.out).cell (p := ⟨g, o + k * 8 + 1, none⟩) hg).trans e1
        have w1e2 := ((HWW.out).cell (p := ⟨g, o + k * 8 + 2, none⟩) hg).trans e2
        have w1e3 := ((HWW.out).cell (p := ⟨g, o + k * 8 + 3, none⟩) hg).trans e3
        have w1e4 := ((HWW.out).cell (p := ⟨g, o + k * 8 + 4, none⟩) hg).trans e4
        have w1e5 := ((HWW.out).cell (p := ⟨g, o + k * 8 + 5, none⟩) hg).trans e5
        have w1e6 := ((HWW.out).cell (p := ⟨g, o + k * 8 + 6, none⟩) hg).trans e6
        have w1e7 := ((HWW.out).cell (p := ⟨g, o + k * 8 + 7, none⟩) hg).trans e7
        simp only [Nat.add_zero] at w1e0
        go_wp2_with fail
        refine HCA.out.mono ?_
        rintro e w2 ⟨m2, rfl, hm2, hme, hom, hfm⟩
        clear w1e0 w1e1 w1e2 w1e3 w1e4 w1e5 w1e6 w1e7
        have hF := HT1.out.first hm2 hom hfm
        have hbm := T.b2
        have hW2 : Below w.heap.size w w2 := HWW.out.trans (hom.below HWW.out.size (fun k hk => by omega))
        have hz2 := hom.size
        simp at hz2
        have hbmr := T.i1.im.lt
        have y0 := (hom.cell (k := w1.heap.size) (o := 0) (by simp) (fun e => by omega))
        have y1 := (hom.cell (k := w1.heap.size) (o := 1) (by simp) (fun e => by omega))
        have y2 := (hom.cell (k := w1.heap.size) (o := 2) (by simp) (fun e => by omega))
        have y3 := (hom.cell (k := w1.heap.size) (o := 3) (by simp) (fun e => by omega))
        have y4 := (hom.cell (k := w1.heap.size) (o := 4) (by simp) (fun e => by omega))
        simp at y0 y1 y2 y3 y4
        have hIN2 := (HIN1.out.up (below1 w1 _)).fresh hom (n := wr.heap.size) (fun g hg => HFR1.out.blk hg) (fun g hg => by omega)
        have HIN2 := Lib.hid hIN2
        have HM2 := Lib.hid hm2
        have HME := Lib.hid hme
        have HOM := Lib.hid hom
        have HF2 := Lib.hid hF
        have HW2 := Lib.hid hW2
        clear hm2 hme hom hfm hF hW2 hIN2
        have f0 := ((HW2.out).cell (p := ⟨g, o + k * 8 + 0, none⟩) hg).trans e0
        have f1 := ((HW2.out).cell (p := ⟨g, o + k * 8 + 1, none⟩) hg).trans e1
        have f2 := ((HW2.out).cell (p := ⟨g, o + k * 8 + 2, none⟩) hg).trans e2
        have f3 := ((HW2.out).cell (p := ⟨g, o + k * 8 + 3, none⟩) hg).trans e3
        have f4 := ((HW2.out).cell (p := ⟨g, o + k * 8 + 4, none⟩) hg).trans e4
        have f5 := ((HW2.out).cell (p := ⟨g, o + k * 8 + 5, none⟩) hg).trans e5
        have f6 := ((HW2.out).cell (p := ⟨g, o + k * 8 + 6, none⟩) hg).trans e6
        have f7 := ((HW2.out).cell (p := ⟨g, o + k * 8 + 7, none⟩) hg).trans e7
        simp only [Nat.add_zero] at f0
        go_wp2_with fail
        refine (HPK.out kind _).mono ?_
        rintro e w' ⟨rfl, rfl⟩
        rw [show pickI kind 6 = 4 from HPA.out]
        have hRA : Calls Tryd.prog 30 #[.pointer (some ⟨bo, 0, none⟩), .int .i64 ac, .int .i64 n] w2.drew (RrPost w2.drew bo v l (refE (conM l) ⟨kind, ac, n, ⟨xk, xn, xi, xt, xA, xc, xr⟩⟩) (refM (conM l) ⟨kind, ac, n, ⟨xk, xn, xi, xt, xA, xc, xr⟩⟩)) := by
          unfold refE refM
          dsimp only
          rw [show pickI kind 6 = _ from HPA.out, if_neg (show ¬ ((4 : Int) < 3) by decide), if_neg (show ¬ ((4 : Int) < 3) by decide), if_neg (show ¬ ((4 : Int) = 3) by decide), if_neg (show ¬ ((4 : Int) = 3) by decide)]
          exact rgadd_any HF2.out.1.drew ac n (by omega) ha.n0 ha.n1
        have HRA := Lib.hid hRA
        clear hRA
        go_wp2_with fail
        have C1 : ∀ x : UpW w.heap.size w2, x.w.cell? ⟨g, o + k * 8 + 1, none⟩ = _ := fun x => (x.up.cell (p := ⟨g, o + k * 8 + 1, none⟩) hg).trans f1
        have C2 : ∀ x : UpW w.heap.size w2, x.w.cell? ⟨g, o + k * 8 + 2, none⟩ = _ := fun x => (x.up.cell (p := ⟨g, o + k * 8 + 2, none⟩) hg).trans f2
        refine wp_region_mixT w.heap.size 12 (.one [0, 1, 2, 3, 4, 5, 6, 7, 8, 9, 10] 11 (.done [])) (by kernel_rfl) (fun c d v a w h => by cases d <;> exact h) (by kernel_rfl) ?_
        simp only [wpMixT, pk_nil, pk_cons, pushAt_zero, pushAt_succ, List.drop_succ_cons, List.drop_zero]
        repeat (go_big_quiet_step (fail))
        refine wpQuiet_nil ?_
        clear C1 C2
        go_wp2_with fail
        refine HRA.out.mono ?_
        rintro e w3 ⟨v3, l3, rfl, hR3, hle, hol, hfl, hvl⟩
        have hol2 : Only (fun k => k = bo ∨ v.ownBlock = some k) w2 w3 := (Only.refl _ w2).drew.trans hol
        have hb3 : Below w.heap.size w2 w3 := hol2.below HW2.out.size (fun k hk => hk.elim (fun e => by have := T.b3; omega) (fun e => T.b4 k e))
        have hEr := T.rel.err ⟨kind, ac, n, ⟨xk, xn, xi, xt, xA, xc, xr⟩⟩
        have hRS := T.rel.step ⟨kind, ac, n, ⟨xk, xn, xi, xt, xA, xc, xr⟩⟩
        have hLn := refM_len (lc := conM l) ⟨kind, ac, n, ⟨xk, xn, xi, xt, xA, xc, xr⟩⟩
        rw [← HME.out, ← hle] at hRS
        rw [← hle, conM_length, conM_length] at hLn
        have hT3 := HT1.out.second HOM.out HM2.out HF2.out.2 hRS hR3 hol2 hfl hvl
        have hz3 := hol2.size
        have z0 := (hol2.cell (k := w1.heap.size) (o := 0) (by omega) (fun e => e.elim (fun e => by have := T.i2.lt; omega) (fun e => by have := T.i2.own.lt e; omega))).trans y0
        have z1 := (hol2.cell (k := w1.heap.size) (o := 1) (by omega) (fun e => e.elim (fun e => by have := T.i2.lt; omega) (fun e => by have := T.i2.own.lt e; omega))).trans y1
        have z2 := (hol2.cell (k := w1.heap.size) (o := 2) (by omega) (fun e => e.elim (fun e => by have := T.i2.lt; omega) (fun e => by have := T.i2.own.lt e; omega))).trans y2
        have z3 := (hol2.cell (k := w1.heap.size) (o := 3) (by omega) (fun e => e.elim (fun e => by have := T.i2.lt; omega) (fun e => by have := T.i2.own.lt e; omega))).trans y3
        have z4 := (hol2.cell (k := w1.heap.size) (o := 4) (by omega) (fun e => e.elim (fun e => by have := T.i2.lt; omega) (fun e => by have := T.i2.own.lt e; omega))).trans y4
        have HIN3 := Lib.hid (HIN2.out.fresh hol2 (n := wr.heap.size) (fun g hg => HFR1.out.blk hg) (fun g hg => hg.elim (fun e => by have := T.i2.lt; omega) (fun e => T.i2.own.lt e)))
        have HT3 := Lib.hid hT3
        have HW3 := Lib.hid (HW2.out.trans (hb3.mono (Nat.le_refl _)))
        have HB3 := Lib.hid hb3
        have HEr := Lib.hid hEr
        have hm3 : m2.length ≤ 1000000 := by have := hRS.len; rw [conM_length, conM_length] at this; omega
        have hl3 : l3.length ≤ k + 1 := by omega
        clear hR3 hle hol hol2 hfl hvl hT3 hb3 hEr hRS hLn y0 y1 y2 y3 y4
        have f1' := ((HB3.out).cell (p := ⟨g, o + k * 8 + 1, none⟩) hg).trans f1
        have hz3b := hz3
        go_wp2_with fail
        refine thenQ_normal ⟨⟨⟨_, HB3.out⟩, rfl⟩, ?_⟩
        refine wpQuiet_nil ?_
        clear f0 f1 f2 f3 f4 f5 f6 f7
        go_wp2_with fail
        refine (get_con HT3.out.i1 ac).mono ?_
        rintro e w4 ⟨⟨k4, n4, d4, t4, A4, c4, r4⟩, is4, rfl, hin4, hfr4, hb4, hy4, hs4⟩
        have hbW4 := up2 hb4 (below1 w4 (.cells #[.int .i64 k4, .int .i64 n4, .int .i64 d4, .string t4, .slice A4 r4.length c4] 56))
        have hz4 := hb4.size
        have zb0 := (hbW4.cell (p := ⟨w1.heap.size, 0, none⟩) (show w1.heap.size < w3.heap.size by omega)).trans z0
        have zb1 := (hbW4.cell (p := ⟨w1.heap.size, 1, none⟩) (show w1.heap.size < w3.heap.size by omega)).trans z1
        have zb2 := (hbW4.cell (p := ⟨w1.heap.size, 2, none⟩) (show w1.heap.size < w3.heap.size by omega)).trans z2
        have zb3 := (hbW4.cell (p := ⟨w1.heap.size, 3, none⟩) (show w1.heap.size < w3.heap.size by omega)).trans z3
        have zb4 := (hbW4.cell (p := ⟨w1.heap.size, 4, none⟩) (show w1.heap.size < w3.heap.size by omega)).trans z4
        have g1 := ((hbW4.mono (Nat.le_trans HW3.out.size (Nat.le_refl _))).cell (p := ⟨g, o + k * 8 + 1, none⟩) hg).trans f1'
        have HIN4 := Lib.hid (hin4.up (below1 w4 (.cells #[.int .i64 k4, .int .i64 n4, .int .i64 d4, .string t4, .slice A4 r4.length c4] 56)))
        have HY4 := Lib.hid hy4
        have HS4 := Lib.hid hs4
        have HBW4 := Lib.hid hbW4
        clear hin4 hfr4 hb4 hy4 hs4 hbW4 z0 z1 z2 z3 z4 f1'
        go_wp2_with fail
        refine (rget_con (HT3.out.i2.up HBW4.out) ac (by omega)).mono ?_
        rintro e w5 ⟨⟨k5, n5, d5, t5, A5, c5, r5⟩, is5, rfl, hin5, hfr5, hb5, hy5, hs5⟩
        have hbW5 := up2 hb5 (below1 w5 (.cells #[.int .i64 k5, .int .i64 n5, .int .i64 d5, .string t5, .slice A5 r5.length c5] 56))
        have hz5 := hb5.size
        simp at hz5
        have xb0 := hbW5.cell (p := ⟨w4.heap.size, 0, none⟩) (by simp)
        have xb1 := hbW5.cell (p := ⟨w4.heap.size, 1, none⟩) (by simp)
        have xb2 := hbW5.cell (p := ⟨w4.heap.size, 2, none⟩) (by simp)
        have xb3 := hbW5.cell (p := ⟨w4.heap.size, 3, none⟩) (by simp)
        have xb4 := hbW5.cell (p := ⟨w4.heap.size, 4, none⟩) (by simp)
        simp at xb0 xb1 xb2 xb3 xb4
        have zc0 := (hbW5.cell (p := ⟨w1.heap.size, 0, none⟩) (by simp; omega)).trans zb0
        have zc1 := (hbW5.cell (p := ⟨w1.heap.size, 1, none⟩) (by simp; omega)).trans zb1
        have zc2 := (hbW5.cell (p := ⟨w1.heap.size, 2, none⟩) (by simp; omega)).trans zb2
        have zc3 := (hbW5.cell (p := ⟨w1.heap.size, 3, none⟩) (by simp; omega)).trans zb3
        have zc4 := (hbW5.cell (p := ⟨w1.heap.size, 4, none⟩) (by simp; omega)).trans zb4
        have h0w4 := Nat.le_trans HW3.out.size hz4
        have g2 := ((hbW5.mono (show w.heap.size ≤ _ by simp; omega)).cell (p := ⟨g, o + k * 8 + 1, none⟩) hg).trans g1
        have HIN5 := Lib.hid (hin5.up (below1 w5 (.cells #[.int .i64 k5, .int .i64 n5, .int .i64 d5, .string t5, .slice A5 r5.length c5] 56)))
        have HY5 := Lib.hid hy5
        have HS5 := Lib.hid hs5
        have HBW5 := Lib.hid hbW5
        clear hin5 hfr5 hb5 hy5 hs5 hbW5 zb0 zb1 zb2 zb3 zb4 g1
        go_wp2_with fail
        refine (get_con ((HT3.out.i1.up HBW4.out).up HBW5.out) cc).mono ?_
        rintro e w6 ⟨⟨k6, n6, d6, t6, A6, c6, r6⟩, is6, rfl, hin6, hfr6, hb6, hy6, hs6⟩
        have hbW6 := up2 hb6 (below1 w6 (.cells #[.int .i64 k6, .int .i64 n6, .int .i64 d6, .string t6, .slice A6 r6.length c6] 56))
        have hz6 := hb6.size
        simp at hz6
        have vb0 := hbW6.cell (p := ⟨w5.heap.size, 0, none⟩) (by simp)
        have vb1 := hbW6.cell (p := ⟨w5.heap.size, 1, none⟩) (by simp)
        have vb2 := hbW6.cell (p := ⟨w5.heap.size, 2, none⟩) (by simp)
        have vb3 := hbW6.cell (p := ⟨w5.heap.size, 3, none⟩) (by simp)
        have vb4 := hbW6.cell (p := ⟨w5.heap.size, 4, none⟩) (by simp)
        simp at vb0 vb1 vb2 vb3 vb4
        have xc0 := (hbW6.cell (p := ⟨w4.heap.size, 0, none⟩) (by simp; omega)).trans xb0
        have xc1 := (hbW6.cell (p := ⟨w4.heap.size, 1, none⟩) (by simp; omega)).trans xb1
        have xc2 := (hbW6.cell (p := ⟨w4.heap.size, 2, none⟩) (by simp; omega)).trans xb2
        have xc3 := (hbW6.cell (p := ⟨w4.heap.size, 3, none⟩) (by simp; omega)).trans xb3
        have xc4 := (hbW6.cell (p := ⟨w4.heap.size, 4, none⟩) (by simp; omega)).trans xb4
        have zd0 := (hbW6.cell (p := ⟨w1.heap.size, 0, none⟩) (by simp; omega)).trans zc0
        have zd1 := (hbW6.cell (p := ⟨w1.heap.size, 1, none⟩) (by simp; omega)).trans zc1
        have zd2 := (hbW6.cell (p := ⟨w1.heap.size, 2, none⟩) (by simp; omega)).trans zc2
        have zd3 := (hbW6.cell (p := ⟨w1.heap.size, 3, none⟩) (by simp; omega)).trans zc3
        have zd4 := (hbW6.cell (p := ⟨w1.heap.size, 4, none⟩) (by simp; omega)).trans zc4
        have g3 := ((hbW6.mono (show w.heap.size ≤ _ by simp; omega)).cell (p := ⟨g, o + k * 8 + 1, none⟩) hg).trans g2
        have HIN6 := Lib.hid (hin6.up (below1 w6 (.cells #[.int .i64 k6, .int .i64 n6, .int .i64 d6, .string t6, .slice A6 r6.length c6] 56)))
        have HY6 := Lib.hid hy6
        have HS6 := Lib.hid hs6
        have HBW6 := Lib.hid hbW6
        have he45 : is5 = is4 := by rw [HS4.out, HS5.out, ← HT3.out.rel.eq]
        subst he45
        have d0 := bne_self is5
        rw [HEr.out]
        have d1 : (refE (conM l) ⟨kind, ac, n, ⟨xk, xn, xi, xt, xA, xc, xr⟩⟩ != refE (conM l) ⟨kind, ac, n, ⟨xk, xn, xi, xt, xA, xc, xr⟩⟩) = false := by simp
        have HSA := Lib.hid (same_true ((HIN4.out.up HBW5.out).up hbW6) (HIN5.out.up hbW6) (by rw [HY4.out, HY5.out, HT3.out.rel.eq]) (by have := con_rows HT3.out.i1 ac; rw [← HY4.out] at this; exact this))
        have HT6 := Lib.hid (((HT3.out.up HBW4.out).up HBW5.out).up hbW6)
        clear hin6 hfr6 hb6 hy6 hs6 hbW6 zc0 zc1 zc2 zc3 zc4 xb0 xb1 xb2 xb3 xb4 g2
        go_wp2_with fail
        refine HSA.out.mono ?_
        rintro e w7 ⟨rfl, hb7⟩
        have hT7 := HT6.out.up hb7
        have hNM := names_any hT7.i1 hm3 (ks := l3.map (·.1)) (by have := hT7.rel.keys; unfold conM at this; rwa [List.map_map, List.map_map] at this) hT7.i2.sorted
        have HNM := Lib.hid hNM
        have HT7 := Lib.hid hT7
        have HB7 := Lib.hid hb7
        clear hNM hT7
        go_wp2_with fail
        refine HNM.out.mono ?_
        rintro e w8 ⟨v8, rfl, hown8, hb8⟩
        obtain ⟨A8, c8, rfl, _, _, hr8⟩ := hown8.shape eltI
        have HR8 := Lib.hid hr8
        have HB8 := Lib.hid hb8
        have HRN := Lib.hid (rnames_any (HT7.out.i2.up hb8) (by omega))
        clear hown8 hr8
        go_wp2_with fail
        refine HRN.out.mono ?_
        rintro e w9 ⟨v9, rfl, hown9, hb9⟩
        obtain ⟨A9, c9, rfl, _, _, hr9⟩ := hown9.shape eltI
        have hsi := sameI_true c8 c9 (HR8.out.up hb9) hr9 (by simp; omega)
        rw [List.length_map] at hsi
        have HSI := Lib.hid hsi
        clear hsi
        have HB9 := Lib.hid hb9
        clear hown9 hr9
        go_wp2_with fail
        refine HSI.out.mono ?_
        rintro e wa ⟨rfl, hba⟩
        have hba9 := up2 (up2 (up2 hb7 hb8) hb9) hba
        have hza := hba9.size
        simp at hza
        have g4 := ((hba9.mono (show w.heap.size ≤ _ by simp; omega)).cell (p := ⟨g, o + k * 8 + 1, none⟩) hg).trans g3
        have ze0 := (hba9.cell (p := ⟨w1.heap.size, 0, none⟩) (by simp; omega)).trans zd0
        have ze1 := (hba9.cell (p := ⟨w1.heap.size, 1, none⟩) (by simp; omega)).trans zd1
        have ze2 := (hba9.cell (p := ⟨w1.heap.size, 2, none⟩) (by simp; omega)).trans zd2
        have ze3 := (hba9.cell (p := ⟨w1.heap.size, 3, none⟩) (by simp; omega)).trans zd3
        have ze4 := (hba9.cell (p := ⟨w1.heap.size, 4, none⟩) (by simp; omega)).trans zd4
        have ub0 := hba9.cell (p := ⟨w6.heap.size, 0, none⟩) (by simp)
        have ub1 := hba9.cell (p := ⟨w6.heap.size, 1, none⟩) (by simp)
        have ub2 := hba9.cell (p := ⟨w6.heap.size, 2, none⟩) (by simp)
        have ub3 := hba9.cell (p := ⟨w6.heap.size, 3, none⟩) (by simp)
        have ub4 := hba9.cell (p := ⟨w6.heap.size, 4, none⟩) (by simp)
        simp at ub0 ub1 ub2 ub3 ub4
        have hWa := (((HBW4.out.trans (HBW5.out.mono HBW4.out.size)).trans (HBW6.out.mono (by have := HBW4.out.size; have := HBW5.out.size; omega))).trans (hba9.mono (by have := HBW4.out.size; have := HBW5.out.size; have := HBW6.out.size; omega)))
        have HTa := Lib.hid (HT3.out.up hWa)
        have HWa := Lib.hid (HW3.out.trans (hWa.mono HW3.out.size))
        have HINa := Lib.hid (HIN3.out.up hWa)
        have HI6a := Lib.hid (HIN6.out.up hba9)
        clear hb7 hb8 hb9 hba hba9 hWa g3 zd0 zd1 zd2 zd3 zd4 xc0 xc1 xc2 xc3 xc4 vb0 vb1 vb2 vb3 vb4
        by_cases hcc : cc = ac
        · have dc : (cc != ac) = false := by simpa using hcc
          clear hcc ze0 ze1 ze2 ze3 ze4 ub0 ub1 ub2 ub3 ub4
          go_wp2_with fail
          go_roundw
          case rel => exact ⟨k + 1, m2, v3, l3, by omega, by go_num, HTa.out, hl3, HWa.out⟩
          case measure => simp [intOf]; omega
        · have dc : (cc != ac) = true := by simpa using hcc
          have hoth := callM_other (mc := conM m) ⟨kind, ac, n, ⟨xk, xn, xi, xt, xA, xc, xr⟩⟩ (k := cc) hcc
          rw [← HME.out] at hoth
          have he16 : is6 = is1 := by rw [HS1.out, HS6.out, hoth]
          subst he16
          have d2 := bne_self is6
          have HSB := Lib.hid (same_true HINa.out HI6a.out (by rw [HY1.out, HY6.out, hoth]) (by have := con_rows T.i1 cc; rw [← HY1.out] at this; exact this))
          clear hcc hoth
          go_wp2_with fail
          refine HSB.out.mono ?_
          rintro e wb ⟨rfl, hbb⟩
          have HTb := Lib.hid (HTa.out.up hbb)
          have HWb := Lib.hid (HWa.out.trans (hbb.mono HWa.out.size))
          clear ze0 ze1 ze2 ze3 ze4 ub0 ub1 ub2 ub3 ub4 hbb
          go_wp2_with fail
          go_roundw
          case rel => exact ⟨k + 1, m2, v3, l3, by omega, by go_num, HTb.out, hl3, HWb.out⟩
          case measure => simp [intOf]; omega
      · have HPA := Lib.hid hpa
        clear hpa hp
        go_wp2_with fail
        refine (get_con T.i1 cc).mono ?_
        rintro e w1 ⟨⟨k1, n1, d1, t1, A1, c1, r1⟩, is1, rfl, hin1, hfr1, hb1, hy1, hs1⟩
        have hbW := up2 hb1 (below1 w1 (.cells #[.int .i64 k1, .int .i64 n1, .int .i64 d1, .string t1, .slice A1 r1.length c1] 56))
        have T1 := T.up hbW
        have hWw := hbel.trans (hbW.mono hbel.size)
        have hz1 := hb1.size
        have hCA := call_any T1.i1 a (ha.up hWw) (hT.up hWw) hWw.size
        obtain ⟨kind, ac, n, ⟨xk, xn, xi, xt, xA, xc, xr⟩⟩ := a
        have HCA := Lib.hid hCA
        have HIN1 := Lib.hid hin1
        have HFR1 := Lib.hid hfr1
        have HY1 := Lib.hid hy1
        have HS1 := Lib.hid hs1
        have HT1 := Lib.hid T1
        have HWW := Lib.hid hWw
        have HBW := Lib.hid hbW
        clear hCA hin1 hfr1 hy1 hs1 T1 hWw hbW hb1
        have w1e0 := ((HWW.out).cell (p := ⟨g, o + k * 8 + 0, none⟩) hg).trans e0
        have w1e1 := ((HWW.out).cell (p := ⟨g, o + k * 8 + 1, none⟩) hg).trans e1
        have w1e2 := ((HWW.out).cell (p := ⟨g, o + k * 8 + 2, none⟩) hg).trans e2
        have w1e3 := ((HWW.out).cell (p := ⟨g, o + k * 8 + 3, none⟩) hg).trans e3
        have w1e4 := ((HWW.out).cell (p := ⟨g, o + k * 8 + 4, none⟩) hg).trans e4
        have w1e5 := ((HWW.out).cell (p := ⟨g, o + k * 8 + 5, none⟩) hg).trans e5
        have w1e6 := ((HWW.out).cell (p := ⟨g, o + k * 8 + 6, none⟩) hg).trans e6
        have w1e7 := ((HWW.out).cell (p := ⟨g, o + k * 8 + 7, none⟩) hg).trans e7
        simp only [Nat.add_zero] at w1e0
        go_wp2_with fail
        refine HCA.out.mono ?_
        rintro e w2 ⟨m2, rfl, hm2, hme, hom, hfm⟩
        clear w1e0 w1e1 w1e2 w1e3 w1e4 w1e5 w1e6 w1e7
        have hF := HT1.out.first hm2 hom hfm
        have hbm := T.b2
        have hW2 : Below w.heap.size w w2 := HWW.out.trans (hom.below HWW.out.size (fun k hk => by omega))
        have hz2 := hom.size
        simp at hz2
        have hbmr := T.i1.im.lt
        have y0 := (hom.cell (k := w1.heap.size) (o := 0) (by simp) (fun e => by omega))
        have y1 := (hom.cell (k := w1.heap.size) (o := 1) (by simp) (fun e => by omega))
        have y2 := (hom.cell (k := w1.heap.size) (o := 2) (by simp) (fun e => by omega))
        have y3 := (hom.cell (k := w1.heap.size) (o := 3) (by simp) (fun e => by omega))
        have y4 := (hom.cell (k := w1.heap.size) (o := 4) (by simp) (fun e => by omega))
        simp at y0 y1 y2 y3 y4
        have hIN2 := (HIN1.out.up (below1 w1 _)).fresh hom (n := wr.heap.size) (fun g hg => HFR1.out.blk hg) (fun g hg => by omega)
        have HIN2 := Lib.hid hIN2
        have HM2 := Lib.hid hm2
        have HME := Lib.hid hme
        have HOM := Lib.hid hom
        have HF2 := Lib.hid hF
        have HW2 := Lib.hid hW2
        clear hm2 hme hom hfm hF hW2 hIN2
        have f0 := ((HW2.out).cell (p := ⟨g, o + k * 8 + 0, none⟩) hg).trans e0
        have f1 := ((HW2.out).cell (p := ⟨g, o + k * 8 + 1, none⟩) hg).trans e1
        have f2 := ((HW2.out).cell (p := ⟨g, o + k * 8 + 2, none⟩) hg).trans e2
        have f3 := ((HW2.out).cell (p := ⟨g, o + k * 8 + 3, none⟩) hg).trans e3
        have f4 := ((HW2.out).cell (p := ⟨g, o + k * 8 + 4, none⟩) hg).trans e4
        have f5 := ((HW2.out).cell (p := ⟨g, o + k * 8 + 5, none⟩) hg).trans e5
        have f6 := ((HW2.out).cell (p := ⟨g, o + k * 8 + 6, none⟩) hg).trans e6
        have f7 := ((HW2.out).cell (p := ⟨g, o + k * 8 + 7, none⟩) hg).trans e7
        simp only [Nat.add_zero] at f0
        go_wp2_with fail
        refine (HPK.out kind _).mono ?_
        rintro e w' ⟨rfl, rfl⟩
        rw [show pickI kind 6 = 5 from HPA.out]
        have hRA : Calls Tryd.prog 30 #[.pointer (some ⟨bo, 0, none⟩), .int .i64 ac, .int .i64 n] w2.drew (RrPost w2.drew bo v l (refE (conM l) ⟨kind, ac, n, ⟨xk, xn, xi, xt, xA, xc, xr⟩⟩) (refM (conM l) ⟨kind, ac, n, ⟨xk, xn, xi, xt, xA, xc, xr⟩⟩)) := by
          unfold refE refM
          dsimp only
          rw [show pickI kind 6 = _ from HPA.out, if_neg (show ¬ ((5 : Int) < 3) by decide), if_neg (show ¬ ((5 : Int) < 3) by decide), if_neg (show ¬ ((5 : Int) = 3) by decide), if_neg (show ¬ ((5 : Int) = 3) by decide)]
          exact rgadd_any HF2.out.1.drew ac n (by omega) ha.n0 ha.n1
        have HRA := Lib.hid hRA
        clear hRA
        go_wp2_with fail
        have C1 : ∀ x : UpW w.heap.size w2, x.w.cell? ⟨g, o + k * 8 + 1, none⟩ = _ := fun x => (x.up.cell (p := ⟨g, o + k * 8 + 1, none⟩) hg).trans f1
        have C2 : ∀ x : UpW w.heap.size w2, x.w.cell? ⟨g, o + k * 8 + 2, none⟩ = _ := fun x => (x.up.cell (p := ⟨g, o + k * 8 + 2, none⟩) hg).trans f2
        refine wp_region_mixT w.heap.size 12 (.one [0, 1, 2, 3, 4, 5, 6, 7, 8, 9, 10] 11 (.done [])) (by kernel_rfl) (fun c d v a w h => by cases d <;> exact h) (by kernel_rfl) ?_
        simp only [wpMixT, pk_nil, pk_cons, pushAt_zero, pushAt_succ, List.drop_succ_cons, List.drop_zero]
        repeat (go_big_quiet_step (fail))
        refine wpQuiet_nil ?_
        clear C1 C2
        go_wp2_with fail
        refine HRA.out.mono ?_
        rintro e w3 ⟨v3, l3, rfl, hR3, hle, hol, hfl, hvl⟩
        have hol2 : Only (fun k => k = bo ∨ v.ownBlock = some k) w2 w3 := (Only.refl _ w2).drew.trans hol
        have hb3 : Below w.heap.size w2 w3 := hol2.below HW2.out.size (fun k hk => hk.elim (fun e => by have := T.b3; omega) (fun e => T.b4 k e))
        have hEr := T.rel.err ⟨kind, ac, n, ⟨xk, xn, xi, xt, xA, xc, xr⟩⟩
        have hRS := T.rel.step ⟨kind, ac, n, ⟨xk, xn, xi, xt, xA, xc, xr⟩⟩
        have hLn := refM_len (lc := conM l) ⟨kind, ac, n, ⟨xk, xn, xi, xt, xA, xc, xr⟩⟩
        rw [← HME.out, ← hle] at hRS
        rw [← hle, conM_length, conM_length] at hLn
        have hT3 := HT1.out.second HOM.out HM2.out HF2.out.2 hRS hR3 hol2 hfl hvl
        have hz3 := hol2.size
        have z0 := (hol2.cell (k := w1.heap.size) (o := 0) (by omega) (fun e => e.elim (fun e => by have := T.i2.lt; omega) (fun e => by have := T.i2.own.lt e; omega))).trans y0
        have z1 := (hol2.cell (k := w1.heap.size) (o := 1) (by omega) (fun e => e.elim (fun e => by have := T.i2.lt; omega) (fun e => by have := T.i2.own.lt e; omega))).trans y1
        have z2 := (hol2.cell (k := w1.heap.size) (o := 2) (by omega) (fun e => e.elim (fun e => by have := T.i2.lt; omega) (fun e => by have := T.i2.own.lt e; omega))).trans y2
        have z3 := (hol2.cell (k := w1.heap.size) (o := 3) (by omega) (fun e => e.elim (fun e => by have := T.i2.lt; omega) (fun e => by have := T.i2.own.lt e; omega))).trans y3
        have z4 := (hol2.cell (k := w1.heap.size) (o := 4) (by omega) (fun e => e.elim (fun e => by have := T.i2.lt; omega) (fun e => by have := T.i2.own.lt e; omega))).trans y4
        have HIN3 := Lib.hid (HIN2.out.fresh hol2 (n := wr.heap.size) (fun g hg => HFR1.out.blk hg) (fun g hg => hg.elim (fun e => by have := T.i2.lt; omega) (fun e => T.i2.own.lt e)))
        have HT3 := Lib.hid hT3
        have HW3 := Lib.hid (HW2.out.trans (hb3.mono (Nat.le_refl _)))
        have HB3 := Lib.hid hb3
        have HEr := Lib.hid hEr
        have hm3 : m2.length ≤ 1000000 := by have := hRS.len; rw [conM_length, conM_length] at this; omega
        have hl3 : l3.length ≤ k + 1 := by omega
        clear hR3 hle hol hol2 hfl hvl hT3 hb3 hEr hRS hLn y0 y1 y2 y3 y4
        have f1' := ((HB3.out).cell (p := ⟨g, o + k * 8 + 1, none⟩) hg).trans f1
        have hz3b := hz3
        go_wp2_with fail
        refine thenQ_normal ⟨⟨⟨_, HB3.out⟩, rfl⟩, ?_⟩
        refine wpQuiet_nil ?_
        clear f0 f1 f2 f3 f4 f5 f6 f7
        go_wp2_with fail
        refine (get_con HT3.out.i1 ac).mono ?_
        rintro e w4 ⟨⟨k4, n4, d4, t4, A4, c4, r4⟩, is4, rfl, hin4, hfr4, hb4, hy4, hs4⟩
        have hbW4 := up2 hb4 (below1 w4 (.cells #[.int .i64 k4, .int .i64 n4, .int .i64 d4, .string t4, .slice A4 r4.length c4] 56))
        have hz4 := hb4.size
        have zb0 := (hbW4.cell (p := ⟨w1.heap.size, 0, none⟩) (show w1.heap.size < w3.heap.size by omega)).trans z0
        have zb1 := (hbW4.cell (p := ⟨w1.heap.size, 1, none⟩) (show w1.heap.size < w3.heap.size by omega)).trans z1
        have zb2 := (hbW4.cell (p := ⟨w1.heap.size, 2, none⟩) (show w1.heap.size < w3.heap.size by omega)).trans z2
        have zb3 := (hbW4.cell (p := ⟨w1.heap.size, 3, none⟩) (show w1.heap.size < w3.heap.size by omega)).trans z3
        have zb4 := (hbW4.cell (p := ⟨w1.heap.size, 4, none⟩) (show w1.heap.size < w3.heap.size by omega)).trans z4
        have g1 := ((hbW4.mono (Nat.le_trans HW3.out.size (Nat.le_refl _))).cell (p := ⟨g, o + k * 8 + 1, none⟩) hg).trans f1'
        have HIN4 := Lib.hid (hin4.up (below1 w4 (.cells #[.int .i64 k4, .int .i64 n4, .int .i64 d4, .string t4, .slice A4 r4.length c4] 56)))
        have HY4 := Lib.hid hy4
        have HS4 := Lib.hid hs4
        have HBW4 := Lib.hid hbW4
        clear hin4 hfr4 hb4 hy4 hs4 hbW4 z0 z1 z2 z3 z4 f1'
        go_wp2_with fail
        refine (rget_con (HT3.out.i2.up HBW4.out) ac (by omega)).mono ?_
        rintro e w5 ⟨⟨k5, n5, d5, t5, A5, c5, r5⟩, is5, rfl, hin5, hfr5, hb5, hy5, hs5⟩
        have hbW5 := up2 hb5 (below1 w5 (.cells #[.int .i64 k5, .int .i64 n5, .int .i64 d5, .string t5, .slice A5 r5.length c5] 56))
        have hz5 := hb5.size
        simp at hz5
        have xb0 := hbW5.cell (p := ⟨w4.heap.size, 0, none⟩) (by simp)
        have xb1 := hbW5.cell (p := ⟨w4.heap.size, 1, none⟩) (by simp)
        have xb2 := hbW5.cell (p := ⟨w4.heap.size, 2, none⟩) (by simp)
        have xb3 := hbW5.cell (p := ⟨w4.heap.size, 3, none⟩) (by simp)
        have xb4 := hbW5.cell (p := ⟨w4.heap.size, 4, none⟩) (by simp)
        simp at xb0 xb1 xb2 xb3 xb4
        have zc0 := (hbW5.cell (p := ⟨w1.heap.size, 0, none⟩) (by simp; omega)).trans zb0
        have zc1 := (hbW5.cell (p := ⟨w1.heap.size, 1, none⟩) (by simp; omega)).trans zb1
        have zc2 := (hbW5.cell (p := ⟨w1.heap.size, 2, none⟩) (by simp; omega)).trans zb2
        have zc3 := (hbW5.cell (p := ⟨w1.heap.size, 3, none⟩) (by simp; omega)).trans zb3
        have zc4 := (hbW5.cell (p := ⟨w1.heap.size, 4, none⟩) (by simp; omega)).trans zb4
        have h0w4 := Nat.le_trans HW3.out.size hz4
        have g2 := ((hbW5.mono (show w.heap.size ≤ _ by simp; omega)).cell (p := ⟨g, o + k * 8 + 1, none⟩) hg).trans g1
        have HIN5 := Lib.hid (hin5.up (below1 w5 (.cells #[.int .i64 k5, .int .i64 n5, .int .i64 d5, .string t5, .slice A5 r5.length c5] 56)))
        have HY5 := Lib.hid hy5
        have HS5 := Lib.hid hs5
        have HBW5 := Lib.hid hbW5
        clear hin5 hfr5 hb5 hy5 hs5 hbW5 zb0 zb1 zb2 zb3 zb4 g1
        go_wp2_with fail
        refine (get_con ((HT3.out.i1.up HBW4.out).up HBW5.out) cc).mono ?_
        rintro e w6 ⟨⟨k6, n6, d6, t6, A6, c6, r6⟩, is6, rfl, hin6, hfr6, hb6, hy6, hs6⟩
        have hbW6 := up2 hb6 (below1 w6 (.cells #[.int .i64 k6, .int .i64 n6, .int .i64 d6, .string t6, .slice A6 r6.length c6] 56))
        have hz6 := hb6.size
        simp at hz6
        have vb0 := hbW6.cell (p := ⟨w5.heap.size, 0, none⟩) (by simp)
        have vb1 := hbW6.cell (p := ⟨w5.heap.size, 1, none⟩) (by simp)
        have vb2 := hbW6.cell (p := ⟨w5.heap.size, 2, none⟩) (by simp)
        have vb3 := hbW6.cell (p := ⟨w5.heap.size, 3, none⟩) (by simp)
        have vb4 := hbW6.cell (p := ⟨w5.heap.size, 4, none⟩) (by simp)
        simp at vb0 vb1 vb2 vb3 vb4
        have xc0 := (hbW6.cell (p := ⟨w4.heap.size, 0, none⟩) (by simp; omega)).trans xb0
        have xc1 := (hbW6.cell (p := ⟨w4.heap.size, 1, none⟩) (by simp; omega)).trans xb1
        have xc2 := (hbW6.cell (p := ⟨w4.heap.size, 2, none⟩) (by simp; omega)).trans xb2
        have xc3 := (hbW6.cell (p := ⟨w4.heap.size, 3, none⟩) (by simp; omega)).trans xb3
        have xc4 := (hbW6.cell (p := ⟨w4.heap.size, 4, none⟩) (by simp; omega)).trans xb4
        have zd0 := (hbW6.cell (p := ⟨w1.heap.size, 0, none⟩) (by simp; omega)).trans zc0
        have zd1 := (hbW6.cell (p := ⟨w1.heap.size, 1, none⟩) (by simp; omega)).trans zc1
        have zd2 := (hbW6.cell (p := ⟨w1.heap.size, 2, none⟩) (by simp; omega)).trans zc2
        have zd3 := (hbW6.cell (p := ⟨w1.heap.size, 3, none⟩) (by simp; omega)).trans zc3
        have zd4 := (hbW6.cell (p := ⟨w1.heap.size, 4, none⟩) (by simp; omega)).trans zc4
        have g3 := ((hbW6.mono (show w.heap.size ≤ _ by simp; omega)).cell (p := ⟨g, o + k * 8 + 1, none⟩) hg).trans g2
        have HIN6 := Lib.hid (hin6.up (below1 w6 (.cells #[.int .i64 k6, .int .i64 n6, .int .i64 d6, .string t6, .slice A6 r6.length c6] 56)))
        have HY6 := Lib.hid hy6
        have HS6 := Lib.hid hs6
        have HBW6 := Lib.hid hbW6
        have he45 : is5 = is4 := by rw [HS4.out, HS5.out, ← HT3.out.rel.eq]
        subst he45
        have d0 := bne_self is5
        rw [HEr.out]
        have d1 : (refE (conM l) ⟨kind, ac, n, ⟨xk, xn, xi, xt, xA, xc, xr⟩⟩ != refE (conM l) ⟨kind, ac, n, ⟨xk, xn, xi, xt, xA, xc, xr⟩⟩) = false := by simp
        have HSA := Lib.hid (same_true ((HIN4.out.up HBW5.out).up hbW6) (HIN5.out.up hbW6) (by rw [HY4.out, HY5.out, HT3.out.rel.eq]) (by have := con_rows HT3.out.i1 ac; rw [← HY4.out] at this; exact this))
        have HT6 := Lib.hid (((HT3.out.up HBW4.out).up HBW5.out).up hbW6)
        clear hin6 hfr6 hb6 hy6 hs6 hbW6 zc0 zc1 zc2 zc3 zc4 xb0 xb1 xb2 xb3 xb4 g2
        go_wp2_with fail
        refine HSA.out.mono ?_
        rintro e w7 ⟨rfl, hb7⟩
        have hT7 := HT6.out.up hb7
        have hNM := names_any hT7.i1 hm3 (ks := l3.map (·.1)) (by have := hT7.rel.keys; unfold conM at this; rwa [List.map_map, List.map_map] at this) hT7.i2.sorted
        have HNM := Lib.hid hNM
        have HT7 := Lib.hid hT7
        have HB7 := Lib.hid hb7
        clear hNM hT7
        go_wp2_with fail
        refine HNM.out.mono ?_
        rintro e w8 ⟨v8, rfl, hown8, hb8⟩
        obtain ⟨A8, c8, rfl, _, _, hr8⟩ := hown8.shape eltI
        have HR8 := Lib.hid hr8
        have HB8 := Lib.hid hb8
        have HRN := Lib.hid (rnames_any (HT7.out.i2.up hb8) (by omega))
        clear hown8 hr8
        go_wp2_with fail
        refine HRN.out.mono ?_
        rintro e w9 ⟨v9, rfl, hown9, hb9⟩
        obtain ⟨A9, c9, rfl, _, _, hr9⟩ := hown9.shape eltI
        have hsi := sameI_true c8 c9 (HR8.out.up hb9) hr9 (by simp; omega)
        rw [List.length_map] at hsi
        have HSI := Lib.hid hsi
        clear hsi
        have HB9 := Lib.hid hb9
        clear hown9 hr9
        go_wp2_with fail
        refine HSI.out.mono ?_
        rintro e wa ⟨rfl, hba⟩
        have hba9 := up2 (up2 (up2 hb7 hb8) hb9) hba
        have hza := hba9.size
        simp at hza
        have g4 := ((hba9.mono (show w.heap.size ≤ _ by simp; omega)).cell (p := ⟨g, o + k * 8 + 1, none⟩) hg).trans g3
        have ze0 := (hba9.cell (p := ⟨w1.heap.size, 0, none⟩) (by simp; omega)).trans zd0
        have ze1 := (hba9.cell (p := ⟨w1.heap.size, 1, none⟩) (by simp; omega)).trans zd1
        have ze2 := (hba9.cell (p := ⟨w1.heap.size, 2, none⟩) (by simp; omega)).trans zd2
        have ze3 := (hba9.cell (p := ⟨w1.heap.size, 3, none⟩) (by simp; omega)).trans zd3
        have ze4 := (hba9.cell (p := ⟨w1.heap.size, 4, none⟩) (by simp; omega)).trans zd4
        have ub0 := hba9.cell (p := ⟨w6.heap.size, 0, none⟩) (by simp)
        have ub1 := hba9.cell (p := ⟨w6.heap.size, 1, none⟩) (by simp)
        have ub2 := hba9.cell (p := ⟨w6.heap.size, 2, none⟩) (by simp)
        have ub3 := hba9.cell (p := ⟨w6.heap.size, 3, none⟩) (by simp)
        have ub4 := hba9.cell (p := ⟨w6.heap.size, 4, none⟩) (by simp)
        simp at ub0 ub1 ub2 ub3 ub4
        have hWa := (((HBW4.out.trans (HBW5.out.mono HBW4.out.size)).trans (HBW6.out.mono (by have := HBW4.out.size; have := HBW5.out.size; omega))).trans (hba9.mono (by have := HBW4.out.size; have := HBW5.out.size; have := HBW6.out.size; omega)))
        have HTa := Lib.hid (HT3.out.up hWa)
        have HWa := Lib.hid (HW3.out.trans (hWa.mono HW3.out.size))
        have HINa := Lib.hid (HIN3.out.up hWa)
        have HI6a := Lib.hid (HIN6.out.up hba9)
        clear hb7 hb8 hb9 hba hba9 hWa g3 zd0 zd1 zd2 zd3 zd4 xc0 xc1 xc2 xc3 xc4 vb0 vb1 vb2 vb3 vb4
        by_cases hcc : cc = ac
        · have dc : (cc != ac) = false := by simpa using hcc
          clear hcc ze0 ze1 ze2 ze3 ze4 ub0 ub1 ub2 ub3 ub4
          go_wp2_with fail
          go_roundw
          case rel => exact ⟨k + 1, m2, v3, l3, by omega, by go_num, HTa.out, hl3, HWa.out⟩
          case measure => simp [intOf]; omega
        · have dc : (cc != ac) = true := by simpa using hcc
          have hoth := callM_other (mc := conM m) ⟨kind, ac, n, ⟨xk, xn, xi, xt, xA, xc, xr⟩⟩ (k := cc) hcc
          rw [← HME.out] at hoth
          have he16 : is6 = is1 := by rw [HS1.out, HS6.out, hoth]
          subst he16
          have d2 := bne_self is6
          have HSB := Lib.hid (same_true HINa.out HI6a.out (by rw [HY1.out, HY6.out, hoth]) (by have := con_rows T.i1 cc; rw [← HY1.out] at this; exact this))
          clear hcc hoth
          go_wp2_with fail
          refine HSB.out.mono ?_
          rintro e wb ⟨rfl, hbb⟩
          have HTb := Lib.hid (HTa.out.up hbb)
          have HWb := Lib.hid (HWa.out.trans (hbb.mono HWa.out.size))
          clear ze0 ze1 ze2 ze3 ze4 ub0 ub1 ub2 ub3 ub4 hbb
          go_wp2_with fail
          go_roundw
          case rel => exact ⟨k + 1, m2, v3, l3, by omega, by go_num, HTb.out, hl3, HWb.out⟩
          case measure => simp [intOf]; omega
    · obtain rfl : k = L.length := by omega
      have HTT := Lib.hid T
      have hml : m.length ≤ 1000000 := by have := T.rel.len; rw [conM_length, conM_length] at this; omega
      have HCP := Lib.hid (rcopy_any T.i1)
      have HKP := Lib.hid (show (m.map (·.1)).Perm (l.map (·.1)) by have := T.rel.keys; unfold conM at this; rwa [List.map_map, List.map_map] at this)
      have HBE := Lib.hid hbel
      have HLL := Lib.hid hll
      clear T hbel hll
      go_wp2_with fail
      refine HCP.out.mono ?_
      rintro e w1 ⟨b', bm', rfl, hR, _, _, hb1⟩
      have HNM := Lib.hid (names_any hR hml (ks := l.map (·.1)) HKP.out HTT.out.i2.sorted)
      clear hR
      go_wp2_with fail
      refine HNM.out.mono ?_
      rintro e w2 ⟨v2, rfl, hown2, hb2⟩
      obtain ⟨A2, c2, rfl, _, _, hr2⟩ := hown2.shape eltI
      have HRN := Lib.hid (rnames_any ((HTT.out.i2.up hb1).up hb2) (by have := HLL.out; omega))
      have HR2 := Lib.hid hr2
      clear hown2 hr2
      go_wp2_with fail
      refine HRN.out.mono ?_
      rintro e w3 ⟨v3, rfl, hown3, hb3⟩
      obtain ⟨A3, c3, rfl, _, _, hr3⟩ := hown3.shape eltI
      have hsi := sameI_true c2 c3 (HR2.out.up hb3) hr3 (by have := HLL.out; simp; omega)
      rw [List.length_map] at hsi
      have HSI := Lib.hid hsi
      clear hsi
      clear hown3 hr3
      go_wp2_with fail
      refine HSI.out.mono ?_
      rintro e w4 ⟨rfl, hb4⟩
      have HBF := Lib.hid (HBE.out.trans ((up2 (up2 (up2 hb1 hb2) hb3) hb4).mono HBE.out.size))
      clear hb1 hb2 hb3 hb4
      go_wp2_with fail
      go_ret
      exact ⟨rfl, HBF.out⟩
end
end Go.Proofs.YtmnmloebomlllaaDoor
