/- copyistlaw18.OversIn returns true. -/
import Derived.Test.YthjkdeocdhdkaaaOvInA
namespace Go.Proofs.Ythjkdeocdhdkaaa
open Go.RowKit
set_option linter.unusedVariables false
set_option linter.unusedSimpArgs false
theorem drewB (w : World) (n : Nat) : Below w.heap.size w (w.drewN n) := ((BelD.refl _ w).drewN n).toBelow
set_option maxRecDepth 100000 in
set_option maxHeartbeats 4000000 in
theorem in18_some (A : Option Addr) (cap : Nat) (l : List Act18) (from0 to0 : Int) (w : World) (hl : l.length ≤ 60) (hA : RSl encA w A l) :
    Calls Try.prog 6 #[.slice A l.length cap, .int .i64 from0, .int .i64 to0] w fun e w' => e = .returned (.bool true) ∧ Below w.heap.size w w' := by
  have HA := Lib.hid hA
  clear hA
  have hl' : (l.length : Int) ≤ 60 := by omega
  go_enter Try.func6, Try.ntmps6
  go_wp2_with fail
  refine (lives_true w).mono ?_
  rintro e w1 ⟨rfl, hB1⟩
  go_wp2_with fail
  refine (s_new 1 2 w1).mono ?_
  rintro e w2 ⟨ob, rfl, s2, hB2⟩
  have HST := Lib.hid (ActSt.start s2 hB2 hB1)
  clear s2 hB1 hB2
  go_wp2_with fail
  go_loopw [8] (fun vi wz => ∃ (j : Nat) (D : List OverD) (nx : Int), j ≤ l.length ∧ vi = .int .i64 j ∧ ActSt w wz ob 1 2 D nx j) (fun vi _ => l.length - (intOf vi).toNat)
  case atStart => exact ⟨0, [], 0, by omega, rfl, HST.out⟩
  case round =>
    clear HST
    obtain ⟨j, D, nx, hj, rfl, hst⟩ := hrel
    by_cases hlt : j < l.length
    · obtain ⟨⟨ki, id, af, at_, anm, an, afr, are, avk, avn⟩, hact⟩ : ∃ x, l[j]? = some x := ⟨_, List.getElem?_eq_getElem hlt⟩
      obtain ⟨g, o, hAe, hg, hcs⟩ := (HA.out.up hst.bel).at_ eltA hact
      have k0 := hcs 0 _ rfl
      have k1 := hcs 1 _ rfl
      have k2 := hcs 2 _ rfl
      have k3 := hcs 3 _ rfl
      have k4 := hcs 4 _ rfl
      have k5 := hcs 5 _ rfl
      have k6 := hcs 6 _ rfl
      have k7 := hcs 7 _ rfl
      have k8 := hcs 8 _ rfl
      have k9 := hcs 9 _ rfl
      simp only [← Nat.add_assoc, Nat.add_zero] at k0 k1 k2 k3 k4 k5 k6 k7 k8 k9
      have hlt' : (j : Int) < l.length := by omega
      have HDO := Lib.hid (act_do hst ⟨ki, id, af, at_, anm, an, afr, are, avk, avn⟩ (by omega))
      clear hact hcs hst hg
      subst hAe
      go_wp2_with fail
      refine HDO.out.mono ?_
      rintro e w5 ⟨gv, rfl, h5⟩
      have H5 := Lib.hid h5
      clear h5 HDO
      go_wp2_with fail
      exact ⟨⟨j + 1, _, _, by omega, by go_num, H5.out⟩, by simp [intOf]; omega⟩
    · obtain rfl : j = l.length := by omega
      clear hlt
      obtain ⟨wA, rfl⟩ : ∃ x, x = wr := ⟨_, rfl⟩
      have hwf := hst.wf
      obtain ⟨p0, p1⟩ := pick_pos from0 300 (by omega)
      obtain ⟨q0, q1⟩ := pick_pos to0 100 (by omega)
      go_wp2_with fail
      refine (pick_any from0 300 _ (by omega) (by omega)).mono ?_
      rintro e w' ⟨rfl, rfl⟩
      go_wp2_with fail
      refine (pick_any to0 100 _ (by omega) (by omega)).mono ?_
      rintro e w' ⟨rfl, rfl⟩
      generalize pickI from0 300 = f at *
      obtain ⟨t, ht, ht2⟩ : ∃ t, t = f + pickI to0 100 ∧ f ≤ t ∧ t ≤ 400 := ⟨_, rfl, by omega, by omega⟩
      have hws : IntKind.i64.wrap (f + pickI to0 100) = t := by rw [← ht]; exact IntWalk.i64_in _ (by omega)
      have hdl := hwf.len
      have hnd := inI_nodup (pr := 1) hwf f t
      have hil := inI_len (pr := 1) (D := D) f t
      have HW := Lib.hid hwf
      have HST := Lib.hid hst
      have HND := Lib.hid hnd
      have HBEL := Lib.hid hst.bel
      have HO := Lib.hid hst.st
      clear ht hst hwf hnd
      go_wp2_with fail
      clear hws
      refine (s_in HO.out HW.out f t).mono ?_
      rintro e w6 ⟨vin, rfl, o6, b6⟩
      obtain ⟨lin, hlin⟩ : ∃ lin, lin = inI 1 D f t := ⟨_, rfl⟩
      rw [← hlin] at o6 HND hil
      have HLIN := Lib.hid hlin
      clear hlin
      obtain ⟨A6, c6, rfl, hA61, hA62, _⟩ := o6.shape eltI
      have hg0 := b6.size
      have hvb : (Value.slice A6 lin.length c6).ownBlock ≠ some w6.heap.size := fun e => by have := o6.lt e; omega
      have hmm := @run_makeMap Try.prog
      have HO6 := Lib.hid o6
      have HB6 := Lib.hid b6
      have HVB := Lib.hid hvb
      clear o6 b6 hvb
      go_wp2_with fail
      go_loopw [11] (fun vi wz => ∃ k : Nat, k ≤ lin.length ∧ vi = .int .i64 k ∧ SetAt wz w6.heap.size (lin.take k) ∧ Only (· = w6.heap.size) (w6.alloc (.map #[] 0)) wz) (fun vi _ => lin.length - (intOf vi).toNat)
      case atStart => exact ⟨0, by omega, rfl, SetAt.made w6, Only.refl _ _⟩
      case round =>
        obtain ⟨k, hk, rfl, hs, hon⟩ := hrel
        obtain ⟨wk, rfl⟩ : ∃ x, x = wr := ⟨_, rfl⟩
        have hsz := hon.size
        have hsz1 : (w6.alloc (.map #[] 0)).heap.size = w6.heap.size + 1 := by simp
        have hbk : Below w6.heap.size w6 wk := (below1 w6 _).trans (hon.below (by omega) fun k hk => by omega)
        have hok := HO6.out.up hbk
        obtain ⟨A6', c6', e6, _, _, r6⟩ := hok.shape eltI
        cases e6
        by_cases hlt : k < lin.length
        · obtain ⟨z, hz⟩ : ∃ z, lin[k]? = some z := ⟨_, List.getElem?_eq_getElem hlt⟩
          obtain ⟨g, o, hAe, hg, hc⟩ := r6.at_ eltI hz
          have k0 := hc 0 _ rfl
          simp only [Nat.mul_one, Nat.add_zero] at k0
          obtain ⟨w7, hrun, hs7, ho7⟩ := hs.store z
          have htk : lin.take k ++ [z] = lin.take (k + 1) := by rw [List.take_add_one, hz]; rfl
          rw [htk] at hs7
          have hlt' : (k : Int) < lin.length := by omega
          have HS7 := Lib.hid hs7
          have HO7 := Lib.hid (hon.trans ho7)
          have HAE := Lib.hid hAe
          clear hz hc r6 hok hs hon htk hs7 ho7 hsz hsz1 hbk hAe
          have hAe := HAE.out
          subst hAe
          go_wp2_with fail
          go_roundw
          case rel => exact ⟨k + 1, by omega, by go_num, HS7.out, HO7.out⟩
          case measure => simp [intOf]; omega
        · obtain rfl : k = lin.length := by omega
          rw [List.take_of_length_le (Nat.le_refl _)] at hs
          obtain ⟨wb, hwb⟩ : ∃ wb, wb = wk.heap.size := ⟨_, rfl⟩
          have hin : InC wA (wk.alloc (.map #[] 0)) w6.heap.size wb (.slice A6 lin.length c6) lin [] := by
            have hb1 := below1 wk (.map #[] 0)
            have hb0 : Below wA.heap.size wA wk := HB6.out.trans (hbk.mono hg0)
            refine ⟨up2 hb0 hb1, hok.up hb1, hs.kept (hb1.block _ hs.lt), by rw [hwb]; exact SetAt.made wk, hg0, ?_, ?_, ?_⟩
            · rw [hwb]; omega
            · rw [hwb]; intro e; have := hok.lt e; omega
            · rw [hwb]; omega
          have HIN := Lib.hid hin
          clear hin hs hon hsz hsz1 hbk hok r6 hlt
          go_wp2_with fail
          rw [← hwb]
          clear hwb
          go_loopw [13] (fun vi wz => ∃ (p : Int) (wl : List Int), f ≤ p ∧ p ≤ t ∧ vi = .int .i64 p ∧ WantP 1 D f p wl ∧ InC wA wz w6.heap.size wb (.slice A6 lin.length c6) lin wl) (fun vi _ => (t - intOf vi).toNat)
          case atStart => exact ⟨f, [], by omega, by omega, rfl, WantP.start f, HIN.out⟩
          case round =>
            clear HIN
            obtain ⟨p, wl, hp1, hp2, rfl, hwp, hin⟩ := hrel
            obtain ⟨wp, rfl⟩ : ∃ x, x = wr := ⟨_, rfl⟩
            by_cases hpt : p < t
            · have HWP := Lib.hid hwp
              have hal := atI_len (pr := 1) (D := D) p
              have HIN := Lib.hid hin
              have HAT := Lib.hid (s_at (HO.out.up hin.bel) HW.out p)
              clear hwp hin
              go_wp2_with fail
              refine HAT.out.mono ?_
              rintro e w8 ⟨va, rfl, o8, b8⟩
              have hin8 := HIN.out.up b8
              obtain ⟨la, hla⟩ : ∃ la, la = atI 1 D p := ⟨_, rfl⟩
              rw [← hla] at o8 hal
              obtain ⟨A8, c8, rfl, hA81, hA82, _⟩ := o8.shape eltI
              have hvn : ∀ k, (Value.slice A8 la.length c8).ownBlock = some k → k ≠ wb := fun k e e2 => by have h1 := o8.base e; have h2 := HIN.out.wm.lt; omega
              have HO8 := Lib.hid o8
              have HIN8 := Lib.hid hin8
              have HVN := Lib.hid hvn
              have HLA := Lib.hid hla
              clear o8 hin8 b8 HAT HIN hvn hla
              go_wp2_with fail
              go_loopw [15] (fun vi wz => ∃ k : Nat, k ≤ la.length ∧ vi = .int .i64 k ∧ InC wA wz w6.heap.size wb (.slice A6 lin.length c6) lin (wl ++ la.take k) ∧ Only (· = wb) w8 wz) (fun vi _ => la.length - (intOf vi).toNat)
              case atStart => exact ⟨0, by omega, rfl, by simpa using HIN8.out, Only.refl _ _⟩
              case round =>
                obtain ⟨k, hk, rfl, hin, hon⟩ := hrel
                obtain ⟨wq, rfl⟩ : ∃ x, x = wr := ⟨_, rfl⟩
                have hok := HO8.out.kept (w' := wq) fun g hg => hon.block g (HO8.out.lt hg) (HVN.out g hg)
                obtain ⟨A8', c8', e8, _, _, r8⟩ := hok.shape eltI
                cases e8
                by_cases hlt : k < la.length
                · obtain ⟨z, hz⟩ : ∃ z, la[k]? = some z := ⟨_, List.getElem?_eq_getElem hlt⟩
                  obtain ⟨g, o, hAe, hg, hc⟩ := r8.at_ eltI hz
                  have k0 := hc 0 _ rfl
                  simp only [Nat.mul_one, Nat.add_zero] at k0
                  obtain ⟨w7, hrun, hs7, ho7⟩ := hin.wm.store z
                  have htk : wl ++ la.take k ++ [z] = wl ++ la.take (k + 1) := by rw [List.take_add_one, hz, List.append_assoc]; rfl
                  rw [htk] at hs7
                  have hlt' : (k : Int) < la.length := by omega
                  have HS7 := Lib.hid (hin.put ho7 hs7)
                  have HO7 := Lib.hid (hon.trans ho7)
                  have HAE := Lib.hid hAe
                  clear hz hc r8 hok hin hon htk hs7 ho7 hAe
                  have hAe := HAE.out
                  subst hAe
                  go_wp2_with fail
                  go_roundw
                  case rel => exact ⟨k + 1, by omega, by go_num, HS7.out, HO7.out⟩
                  case measure => simp [intOf]; omega
                · obtain rfl : k = la.length := by omega
                  rw [List.take_of_length_le (Nat.le_refl _)] at hin
                  have hstep := HWP.out.step hp1
                  rw [← HLA.out] at hstep
                  have HSTEP := Lib.hid hstep
                  have HIN := Lib.hid hin
                  clear hlt hin hon hok r8 hstep
                  go_wp2_with fail
                  go_roundw
                  case rel => exact ⟨p + 1, _, by omega, by omega, by go_num, HSTEP.out, HIN.out⟩
                  case measure => simp [intOf]; omega
            · obtain rfl : p = t := by omega
              clear hpt
              have HWE := Lib.hid (WantE.start hwp)
              have HIN := Lib.hid hin
              have HAL := Lib.hid (st_all (HO.out.up hin.bel) HW.out)
              clear hwp hin
              go_wp2_with fail
              refine HAL.out.mono ?_
              rintro e w9 ⟨v9, M, rfl, ha9, hb9⟩
              have hin9 := HIN.out.up hb9
              obtain ⟨A9, c9, rfl, hA91, hA92, _⟩ := ha9.own.shape eltO
              have hMl : M.length = D.length := by have := congrArg List.length ha9.dat; simpa using this
              have hvn : ∀ k, (Value.slice A9 M.length c9).ownBlock = some k → k ≠ wb := fun k e e2 => by have h1 := ha9.own.base e; have h2 := HIN.out.wm.lt; omega
              have HD := Lib.hid ha9.dat
              have HOW := Lib.hid ha9.own
              have HIN9 := Lib.hid hin9
              have HML := Lib.hid hMl
              have HVN := Lib.hid hvn
              clear ha9 hin9 hb9 hvn hMl HAL HIN
              rw [HML.out] at HOW HVN ⊢
              go_wp2_with fail
              go_loopw [17] (fun vi wz => ∃ (k : Nat) (wl : List Int), k ≤ D.length ∧ vi = .int .i64 k ∧ WantE 1 D f p k wl ∧ InC wA wz w6.heap.size wb (.slice A6 lin.length c6) lin wl ∧ Only (· = wb) w9 wz) (fun vi _ => D.length - (intOf vi).toNat)
              case atStart => exact ⟨0, _, by omega, rfl, HWE.out, HIN9.out, Only.refl _ _⟩
              case round =>
                clear HWE HIN9 wl
                obtain ⟨k, wl, hk, rfl, hwe, hin, hon⟩ := hrel
                obtain ⟨wq, rfl⟩ : ∃ x, x = wr := ⟨_, rfl⟩
                have hok := HOW.out.kept (w' := wq) fun g hg => hon.block g (HOW.out.lt hg) (HVN.out g hg)
                have hok2 : ROwn encO 56 6 wp.heap.size wq (.slice A9 M.length c9) M := by rw [HML.out]; exact hok
                obtain ⟨A9', c9', e9, _, _, r9⟩ := hok2.shape eltO
                cases e9
                by_cases hlt : k < D.length
                · obtain ⟨x, hx⟩ : ∃ x, M[k]? = some x := ⟨_, List.getElem?_eq_getElem (by rw [HML.out]; exact hlt)⟩
                  have hdx : D[k]? = some x.dat := by rw [← HD.out, List.getElem?_map, hx]; rfl
                  obtain ⟨g, o, hAe, hg, hc⟩ := r9.at_ eltO hx
                  have k0 := hc 0 _ rfl
                  have k1 := hc 1 _ rfl
                  have k2 := hc 2 _ rfl
                  simp only [← Nat.add_assoc, Nat.add_zero] at k0 k1 k2
                  have hlt' : (k : Int) < D.length := by omega
                  have HWE := Lib.hid hwe
                  have HIN := Lib.hid hin
                  have HON := Lib.hid hon
                  have HDX := Lib.hid hdx
                  obtain ⟨id, xf, xt, fr, re, xA, xc, xps, xg⟩ := x
                  dsimp only at k0 k1 k2
                  clear hx hc r9 hok hok2 hwe hin hon hdx
                  subst hAe
                  have hE : emptyB f p (OverE.dat ⟨id, xf, xt, fr, re, xA, xc, xps, xg⟩) = ((decide (xf = xt) && decide (f ≤ xf)) && decide (xf ≤ p)) := rfl
                  have HE := Lib.hid hE
                  clear hE
                  by_cases e1 : xf = xt
                  · by_cases e2 : f ≤ xf
                    · by_cases e3 : xf ≤ p
                      · have d1 : (xf == xt) = true := by simpa using e1
                        have d2 : decide (f ≤ xf) = true := decide_eq_true e2
                        have d3 : decide (xf ≤ p) = true := decide_eq_true e3
                        have HY := Lib.hid (HWE.out.yes HDX.out (by rw [HE.out]; simp [e1, e2, e3]; exact ⟨e1 ▸ e2, e1 ▸ e3⟩))
                        clear e1 e2 e3
                        go_wp2_with fail
                        go_quiet (fail)
                        have hinq := HIN.out.up (w' := wq.drewN nq) (drewB _ _)
                        obtain ⟨w7, hrun, hs7, ho7⟩ := hinq.wm.store id
                        have HS7 := Lib.hid (hinq.put ho7 hs7)
                        have HO7 := Lib.hid ((HON.out.trans (Only.of_below (drewB wq nq))).trans ho7)
                        clear hinq hs7 ho7
                        go_wp2_with fail
                        go_roundw
                        case rel => exact ⟨k + 1, _, by omega, by go_num, HY.out, HS7.out, HO7.out⟩
                        case measure => simp [intOf]; omega
                      · have d1 : (xf == xt) = true := by simpa using e1
                        have d2 : decide (f ≤ xf) = true := decide_eq_true e2
                        have d3 : decide (xf ≤ p) = false := decide_eq_false e3
                        have HY := Lib.hid (HWE.out.no HDX.out (by rw [HE.out, decide_eq_false e3]; simp))
                        clear e1 e2 e3
                        go_wp2_with fail
                        go_quiet (fail)
                        go_wp2_with fail
                        go_roundw
                        case rel => exact ⟨k + 1, _, by omega, by go_num, HY.out, HIN.out.up (drewB _ _), HON.out.trans (Only.of_below (drewB _ _))⟩
                        case measure => simp [intOf]; omega
                    · have d1 : (xf == xt) = true := by simpa using e1
                      have d2 : decide (f ≤ xf) = false := decide_eq_false e2
                      have HY := Lib.hid (HWE.out.no HDX.out (by rw [HE.out, decide_eq_false e2]; simp))
                      clear e1 e2
                      go_wp2_with fail
                      go_quiet (fail)
                      go_wp2_with fail
                      go_roundw
                      case rel => exact ⟨k + 1, _, by omega, by go_num, HY.out, HIN.out.up (drewB _ _), HON.out.trans (Only.of_below (drewB _ _))⟩
                      case measure => simp [intOf]; omega
                  · have d1 : (xf == xt) = false := by simpa using e1
                    have HY := Lib.hid (HWE.out.no HDX.out (by rw [HE.out, decide_eq_false e1]; simp))
                    clear e1
                    go_wp2_with fail
                    go_quiet (fail)
                    go_wp2_with fail
                    go_roundw
                    case rel => exact ⟨k + 1, _, by omega, by go_num, HY.out, HIN.out.up (drewB _ _), HON.out.trans (Only.of_below (drewB _ _))⟩
                    case measure => simp [intOf]; omega
                · obtain rfl : k = D.length := by omega
                  have HWE := Lib.hid hwe
                  have HIN := Lib.hid hin
                  have HR9 := Lib.hid r9
                  clear hlt hwe hin hon hok hok2 r9 HVN HOW
                  go_wp2_with fail
                  go_loopw [18] (fun vi wz => ∃ k : Nat, k ≤ D.length ∧ vi = .int .i64 k ∧ Below wq.heap.size wq wz) (fun vi _ => D.length - (intOf vi).toNat)
                  case atStart => exact ⟨0, by omega, rfl, Below.refl _ _⟩
                  case round =>
                    obtain ⟨k, hk, rfl, hbz⟩ := hrel
                    obtain ⟨wz, rfl⟩ : ∃ x, x = wr := ⟨_, rfl⟩
                    have hin := HIN.out.up hbz
                    by_cases hlt : k < D.length
                    · obtain ⟨x, hx⟩ : ∃ x, M[k]? = some x := ⟨_, List.getElem?_eq_getElem (by rw [HML.out]; exact hlt)⟩
                      have hdx : D[k]? = some x.dat := by rw [← HD.out, List.getElem?_map, hx]; rfl
                      obtain ⟨g, o, hAe, hg, hc⟩ := (HR9.out.up hbz).at_ eltO hx
                      have k0 := hc 0 _ rfl
                      simp only [← Nat.add_assoc, Nat.add_zero] at k0
                      have hlt' : (k : Int) < D.length := by omega
                      have hwi := want_in HW.out HWE.out (List.mem_of_getElem? hdx)
                      rw [← HLIN.out] at hwi
                      obtain ⟨id, xf, xt, fr, re, xA, xc, xps, xg⟩ := x
                      dsimp only [OverE.dat] at k0 hwi
                      have hl1 : ∀ n, (Instr.lookup 52 (.map (some w6.heap.size)) (.int .i64 id) false).run Try.prog (wz.drewN n) = .ok (.bool (decide (id ∈ wl))) (wz.drewN n) := fun n => by
                        have h := (hin.up (drewB wz n)).gm.look id
                        rwa [decide_eq_decide.2 hwi] at h
                      have hl2 : ∀ n, (Instr.lookup 52 (.map (some wb)) (.int .i64 id) false).run Try.prog (wz.drewN n) = .ok (.bool (decide (id ∈ wl))) (wz.drewN n) := fun n =>
                        (hin.up (drewB wz n)).wm.look id
                      generalize decide (id ∈ wl) = bb at *
                      have hbb : (bb != bb) = false := by simp
                      have HBZ := Lib.hid hbz
                      clear hx hc hin hdx hwi hbz
                      subst hAe
                      go_wp2_with fail
                      go_quiet (fail)
                      go_wp2_with fail
                      go_roundw
                      case rel => exact ⟨k + 1, by omega, by go_num, up2 HBZ.out (drewB _ _)⟩
                      case measure => simp [intOf]; omega
                    · obtain rfl : k = D.length := by omega
                      have hsz := hin.gm.size HND.out
                      have HS := Lib.hid (s_in (HO.out.up hin.bel) HW.out (p + 1) p)
                      rw [inI_none] at HS
                      have HB := Lib.hid (up2 HBEL.out hin.bel)
                      have hws : IntKind.i64.wrap (p + 1) = p + 1 := IntWalk.i64_in _ (by omega)
                      have hle : (lin.length : Int) ≤ D.length := by omega
                      clear hlt hin hbz
                      go_wp2_with fail
                      refine HS.out.mono ?_
                      rintro e w10 ⟨v10, rfl, o10, b10⟩
                      obtain ⟨A10, c10, rfl, _, _, _⟩ := o10.shape eltI
                      have HB2 := Lib.hid (up2 HB.out b10)
                      clear o10 b10
                      go_wp2_with fail
                      go_ret
                      exact ⟨rfl, HB2.out⟩
set_option maxRecDepth 100000 in
set_option maxHeartbeats 1000000 in
theorem in18_many (A : Option Addr) (cap ln : Nat) (from0 to0 : Int) (w : World) (hl : 60 < ln) (hm : ln ≤ maxLen) :
    Calls Try.prog 6 #[.slice A ln cap, .int .i64 from0, .int .i64 to0] w fun e w' => e = .returned (.bool true) ∧ Below w.heap.size w w' := by
  unfold maxLen at hm
  have hl' : (60 : Int) < (ln : Int) := by omega
  go_enter Try.func6, Try.ntmps6
  go_wp2_with fail
  refine (lives_true w).mono ?_
  rintro e w1 ⟨rfl, hB1⟩
  go_wp2_with fail
  go_ret
  exact ⟨rfl, hB1⟩
theorem in18_walk (A : Option Addr) (ln cap : Nat) (from0 to0 : Int) (l : List Act18) (w : World) (h : l.length = ln ∧ ln ≤ maxLen ∧ RSl encA w A l) :
    Calls Try.prog 6 #[.slice A ln cap, .int .i64 from0, .int .i64 to0] w fun e w' => e = .returned (.bool true) ∧ Below w.heap.size w w' := by
  obtain ⟨rfl, hm, hA⟩ := h
  by_cases hl : l.length ≤ 60
  · exact in18_some A cap l from0 to0 w hl hA
  · exact in18_many A cap l.length from0 to0 w (by omega) hm
end Go.Proofs.Ythjkdeocdhdkaaa
