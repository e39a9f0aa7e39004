import Derived.Test.YthjkdeocdhdkaaaGreatOsRc
/- Overlays, the reference: Inserted. -/
namespace Go.Proofs.YthjkdeocdhdkaaaGreat
open Go.RowKit
set_option linter.unusedVariables false
set_option linter.unusedSimpArgs false
section
variable {w w' W : World} {x y : OverE} {D : List OverD} {M N : List OverE} {p : Nat} {pr ev nx nm : Int} {v v' : Value} {A : Option Addr} {S : Nat → Prop}
theorem putN {B g cap n i j : Nat} {u : Value} (h : ROwn encO 69 6 B w (.slice (some ⟨g, 0, none⟩) n cap) N) (hn : n = N.length) (hi : N[i]? = some x) (hj : j < 6) (he : encO y = (encO x).set j u) :
    ROwn encO 69 6 B (w.setCell ⟨g, i * 6 + j, none⟩ u) (.slice (some ⟨g, 0, none⟩) n cap) (N.set i y) := by
  subst hn; exact h.put eltO hi hj he
def insU (at_ n : Int) (x : OverE) : Int × Int := (insF at_ n x.f x.t x.fr x.re, insT at_ n x.f x.t x.fr x.re)
theorem movedK_same (u : OverE → Int × Int) {k : Nat} (hx : M[k]? = some x) (h : endsX u x = x) : movedK u M k = movedK u M (k + 1) := by
  rw [← movedK_succ u hx, h]
  apply List.ext_getElem?
  intro i
  rw [List.getElem?_set]
  split
  · rename_i e; subst e; rw [movedK_at u hx, if_pos (by have := (List.getElem?_eq_some_iff.1 (movedK_at u hx)).1; exact this)]
  · rfl
theorem insOk_of {at_ n : Int} (h : ∀ (j : Nat) (x : OverE), j < M.length → M[j]? = some x → placeI (insT at_ n x.f x.t x.fr x.re) = true) : insOk (M.map OverE.dat) at_ n = true := by
  unfold insOk
  rw [List.all_eq_true]
  intro z hz
  obtain ⟨y, hy, rfl⟩ := List.mem_map.1 hz
  obtain ⟨j, hj, e⟩ := List.getElem_of_mem hy
  exact h j y hj (by rw [List.getElem?_eq_getElem hj, e])
theorem insOk_no {at_ n : Int} {j : Nat} (hx : M[j]? = some x) (h : placeI (insT at_ n x.f x.t x.fr x.re) = false) : insOk (M.map OverE.dat) at_ n = false := by
  unfold insOk
  rw [List.all_eq_false]
  exact ⟨x.dat, List.mem_map.2 ⟨x, List.mem_of_getElem? hx, rfl⟩, by show ¬ placeI (insT at_ n x.f x.t x.fr x.re) = true; rw [h]; decide⟩
set_option maxRecDepth 100000 in
set_option maxHeartbeats 4000000 in
theorem r_ins_main (h : RefAt w p pr ev v M nx) (hS : ∀ k, footR p v M k → S k) (at_ n : Int) (hpl : placeI at_ = true) (hn0 : 0 ≤ n) (hn1 : n ≤ 65536) (hp : ∀ x ∈ M, 1 ≤ x.f ∧ x.f ≤ x.t ∧ x.t ≤ 1099511627776) (hl : M.length ≤ 1000000) :
    Calls Tryz.prog 42 #[.pointer (some ⟨p, 0, none⟩), .int .i64 at_, .int .i64 n] w (RPost w p pr ev S (.int .i64 (if insOk (M.map OverE.dat) at_ n then 0 else 3)) (if insOk (M.map OverE.dat) at_ n then (M.map OverE.dat).map (insD at_ n) else M.map OverE.dat) nx) := by
  obtain ⟨er, her⟩ : ∃ er : Int, er = (if insOk (M.map OverE.dat) at_ n then 0 else 3) := ⟨_, rfl⟩
  obtain ⟨Dn, hDn⟩ : ∃ Dn, Dn = (if insOk (M.map OverE.dat) at_ n then (M.map OverE.dat).map (insD at_ n) else M.map OverE.dat) := ⟨_, rfl⟩
  rw [← her, ← hDn]
  have HER := Lib.hid her
  have HDN := Lib.hid hDn
  clear her hDn
  have H := Lib.hid h
  have HSS := Lib.hid hS
  have HSAME := Lib.hid (show RSt w p pr ev (M.map OverE.dat) nx S from ⟨v, M, h, rfl, hS⟩)
  obtain ⟨AL, cl, rfl, hcl, hcm, hLs⟩ := h.own.shape eltO
  unfold maxLen at hcm
  have HPL := Lib.hid (hpl ▸ rplace_any at_ w)
  have c0 := h.cell 0 _ rfl
  have hplt := h.plt
  obtain ⟨vl, w1, happ, hown1, hgrow, _⟩ := append_run eltO (ROwn.empty (enc := encO) (E := 69) (k := 6) w.heap.size w (Nat.le_refl _)) (by simp) (hLs.up (below1 w (.cells #[] 69))) cl (by simp; omega) (by omega)
  rw [List.nil_append] at hown1
  have hb1 : Below w.heap.size w w1 := (below1 w (.cells #[] 69)).grown hgrow (by simp) (fun k hk => by cases hk; exact Nat.le_refl _)
  obtain ⟨Al, cp, hvl, hcp1, hcp2, _⟩ := hown1.shape eltO
  subst hvl
  rw [← movedK_zero (insU at_ n) M] at hown1
  rw [movedK_zero] at hown1
  have HP := Lib.hid hp
  have d1 : decide (n < (0 : Int)) = false := decide_eq_false (by omega)
  have d2 : decide ((65536 : Int) < n) = false := decide_eq_false (by omega)
  have HAP := Lib.hid happ
  have HO1 := Lib.hid hown1
  have HB1 := Lib.hid hb1
  have HN0 := Lib.hid hn0
  have HN1 := Lib.hid hn1
  clear h hLs hp hpl hS happ hown1 hgrow hb1 hn0 hn1 hcp1 hcp2
  go_enter Tryz.func42, Tryz.ntmps42
  go_wp2_with fail
  refine HPL.out.mono ?_
  rintro e w0 ⟨rfl, rfl⟩
  go_wp2_with (at_builtin; refine wpList_app_run rfl _ _ _ rfl rfl rfl HAP.out ?_)
  clear c0
  go_loopw [8] (fun vi wz => ∃ j : Nat, j ≤ M.length ∧ vi = .int .i64 j ∧ (∀ (i : Nat) (x : OverE), i < j → M[i]? = some x → placeI (insT at_ n x.f x.t x.fr x.re) = true) ∧ ROwn encO 69 6 w.heap.size wz (.slice Al M.length cp) (movedK (insU at_ n) M j) ∧ Below w.heap.size w wz) (fun vi _ => M.length - (intOf vi).toNat)
  case atStart => exact ⟨0, by omega, rfl, fun i x hi => by omega, by rw [movedK_zero]; exact HO1.out, HB1.out⟩
  case round =>
    obtain ⟨j, hj, rfl, hno, hown, hbz⟩ := hrel
    obtain ⟨wz, rfl⟩ : ∃ x, x = wr := ⟨_, rfl⟩
    have HNO := Lib.hid hno
    clear hno
    by_cases hlt : j < M.length
    · obtain ⟨x, hx⟩ : ∃ x, M[j]? = some x := ⟨_, List.getElem?_eq_getElem hlt⟩
      have hxk := movedK_at (insU at_ n) hx
      have hml := movedK_length (insU at_ n) hj
      obtain ⟨g, cap', hv, _, _, hBg, hg, hfz, hcs⟩ := hown.lies eltO (by omega)
      injection hv with e1 e2 e3
      subst e1
      clear e2 e3
      have k0 := hcs j x 0 _ hxk rfl
      have k1 := hcs j x 1 _ hxk rfl
      have k2 := hcs j x 2 _ hxk rfl
      have k3 := hcs j x 3 _ hxk rfl
      have k4 := hcs j x 4 _ hxk rfl
      have k5 := hcs j x 5 _ hxk rfl
      have z1 := hfz (j * 6 + 1) (by omega)
      have z2 := hfz (j * 6 + 2) (by omega)
      simp only [Nat.add_zero] at k0
      have hne1 : ¬ g = wz.heap.size := by omega
      have hne2 : ¬ wz.heap.size = g := by omega
      have hlt' : (j : Int) < M.length := by omega
      have hpx := HP.out x (List.mem_of_getElem? hx)
      have hA := hown.up (below1 wz (.cells (encO x).toArray 69))
      have HBA := Lib.hid (hbz.trans ((below1 wz (.cells (encO x).toArray 69)).mono hbz.size))
      have up1 : ∀ w9 : World, Below w.heap.size w w9 → Below w.heap.size w (w9.alloc (.cells (encO x).toArray 69)) := fun w9 h9 => h9.trans ((below1 w9 _).mono h9.size)
      have HBF : Hid (∀ u, Below w.heap.size w ((wz.setCell ⟨g, j * 6 + 1, none⟩ u).alloc (.cells (encO x).toArray 69))) := Lib.hid fun u => up1 _ (hbz.setCell (p := ⟨g, j * 6 + 1, none⟩) hBg u)
      have HBT : Hid (∀ u, Below w.heap.size w ((wz.setCell ⟨g, j * 6 + 2, none⟩ u).alloc (.cells (encO x).toArray 69))) := Lib.hid fun u => up1 _ (hbz.setCell (p := ⟨g, j * 6 + 2, none⟩) hBg u)
      have HBFT : Hid (∀ u u', Below w.heap.size w (((wz.setCell ⟨g, j * 6 + 1, none⟩ u).setCell ⟨g, j * 6 + 2, none⟩ u').alloc (.cells (encO x).toArray 69))) := Lib.hid fun u u' => up1 _ ((hbz.setCell (p := ⟨g, j * 6 + 1, none⟩) hBg u).setCell (p := ⟨g, j * 6 + 2, none⟩) hBg u')
      have HRN : Hid (endsX (insU at_ n) x = x → ROwn encO 69 6 w.heap.size (wz.alloc (.cells (encO x).toArray 69)) (.slice (some ⟨g, 0, none⟩) M.length cp) (movedK (insU at_ n) M (j + 1))) := Lib.hid fun e => by
        rw [← movedK_same (insU at_ n) hx e]; exact hA
      have HRF : Hid (∀ a, endsX (insU at_ n) x = ⟨x.id, a, x.t, x.fr, x.re, x.A, x.c, x.ps, x.g⟩ → ROwn encO 69 6 w.heap.size ((wz.setCell ⟨g, j * 6 + 1, none⟩ (.int .i64 a)).alloc (.cells (encO x).toArray 69)) (.slice (some ⟨g, 0, none⟩) M.length cp) (movedK (insU at_ n) M (j + 1))) := Lib.hid fun a e => by
        rw [← movedK_succ (insU at_ n) hx, e]
        exact (putN (y := ⟨x.id, a, x.t, x.fr, x.re, x.A, x.c, x.ps, x.g⟩) (j := 1) (u := .int .i64 a) hown hml.symm hxk (by omega) rfl).up (below1 _ _)
      have HRT : Hid (∀ a, endsX (insU at_ n) x = ⟨x.id, x.f, a, x.fr, x.re, x.A, x.c, x.ps, x.g⟩ → ROwn encO 69 6 w.heap.size ((wz.setCell ⟨g, j * 6 + 2, none⟩ (.int .i64 a)).alloc (.cells (encO x).toArray 69)) (.slice (some ⟨g, 0, none⟩) M.length cp) (movedK (insU at_ n) M (j + 1))) := Lib.hid fun a e => by
        rw [← movedK_succ (insU at_ n) hx, e]
        exact (putN (y := ⟨x.id, x.f, a, x.fr, x.re, x.A, x.c, x.ps, x.g⟩) (j := 2) (u := .int .i64 a) hown hml.symm hxk (by omega) rfl).up (below1 _ _)
      have HRFT : Hid (∀ a b, endsX (insU at_ n) x = ⟨x.id, a, b, x.fr, x.re, x.A, x.c, x.ps, x.g⟩ → ROwn encO 69 6 w.heap.size (((wz.setCell ⟨g, j * 6 + 1, none⟩ (.int .i64 a)).setCell ⟨g, j * 6 + 2, none⟩ (.int .i64 b)).alloc (.cells (encO x).toArray 69)) (.slice (some ⟨g, 0, none⟩) M.length cp) (movedK (insU at_ n) M (j + 1))) := Lib.hid fun a b e => by
        rw [← movedK_succ (insU at_ n) hx, e]
        have h1 := putN (y := ⟨x.id, a, x.t, x.fr, x.re, x.A, x.c, x.ps, x.g⟩) (j := 1) (u := .int .i64 a) hown hml.symm hxk (by omega) rfl
        have h2 := putN (y := ⟨x.id, a, b, x.fr, x.re, x.A, x.c, x.ps, x.g⟩) (j := 2) (u := .int .i64 b) h1 (by rw [List.length_set]; exact hml.symm) (List.getElem?_set_self (by omega)) (by omega) rfl
        rw [List.set_set] at h2
        exact h2.up (below1 _ _)
      have HNX : Hid (placeI (insT at_ n x.f x.t x.fr x.re) = true → ∀ (i : Nat) (z : OverE), i < j + 1 → M[i]? = some z → placeI (insT at_ n z.f z.t z.fr z.re) = true) := Lib.hid fun hpt i z hi hz => by
        rcases Nat.lt_or_ge i j with h1 | h1
        · exact HNO.out i z h1 hz
        · obtain rfl : i = j := by omega
          rw [hx] at hz; cases hz; exact hpt
      have HNE : Hid (placeI (insT at_ n x.f x.t x.fr x.re) = false → er = 3 ∧ Dn = M.map OverE.dat) := Lib.hid fun hpt => by
        have hno := insOk_no hx hpt
        rw [HER.out, HDN.out, hno]
        exact ⟨rfl, rfl⟩
      have hf0 := hpx.1
      have hft := hpx.2.1
      have ht1 := hpx.2.2
      have hn0 := HN0.out
      have hn1 := HN1.out
      obtain ⟨xid, f, t, fr, re, xA, xc, xps, xg⟩ := x
      dsimp only at k0 k1 k2 k3 k4 k5 hf0 hft ht1 HRN HRF HRT HRFT HNX HNE HBA HBF HBT HBFT
      clear hx hxk hml hfz hcs hpx hA up1 hown hbz
      by_cases cf1 : f < at_
      · by_cases ct1 : t < at_
        · by_cases e0 : f = t
          · subst e0
            have b1 : (f == at_) = false := by simpa using (show ¬ f = at_ by omega)
            have d3 : decide (at_ < f) = false := decide_eq_false (by omega)
            have eF : insF at_ n f f fr re = f := by simp [insF, show ¬ f = at_ by omega, show ¬ at_ < f by omega]
            have eT : insT at_ n f f fr re = f := by simp [insT, show ¬ f = at_ by omega, show ¬ at_ < f by omega]
            have eX : endsX (insU at_ n) (⟨xid, f, f, fr, re, xA, xc, xps, xg⟩ : OverE) = ⟨xid, f, f, fr, re, xA, xc, xps, xg⟩ := by simp [endsX, withEnds, insU, eF, eT]
            rw [eT] at HNX HNE
            have HPT := Lib.hid (fun w1 => rplace_any (f) w1)
            have EX := Lib.hid eX
            clear eF eT eX
            cases hpt : placeI (f) with
            | true =>
              simp only [hpt] at HPT
              have HPP := Lib.hid hpt
              clear hpt HNE HP HNO
              go_wp2_with fail
              refine (HPT.out _).mono ?_
              rintro e w2 ⟨rfl, rfl⟩
              go_wp2_with fail
              go_roundw
              case rel => exact ⟨j + 1, by omega, by go_num, HNX.out HPP.out, HRN.out EX.out, HBA.out⟩
              case measure => simp [intOf]; omega
            | false =>
              simp only [hpt] at HPT
              obtain ⟨q1, q2⟩ := HNE.out hpt
              have HPP := Lib.hid hpt
              subst q1 q2
              clear hpt HNE HNX HP HNO
              go_wp2_with fail
              refine (HPT.out _).mono ?_
              rintro e w2 ⟨rfl, rfl⟩
              go_wp2_with fail
              go_ret
              exact RPost.same HSAME.out (HBA.out)
          · have b1 : (f == at_) = false := by simpa using (show ¬ f = at_ by omega)
            have d3 : decide (at_ < f) = false := decide_eq_false (by omega)
            have b2 : (t == at_) = false := by simpa using (show ¬ t = at_ by omega)
            have d4 : decide (at_ < t) = false := decide_eq_false (by omega)
            have b0 : (f == t) = false := by simpa using e0
            have eF : insF at_ n f t fr re = f := by simp [insF, show ¬ f = at_ by omega, show ¬ at_ < f by omega, show ¬ t = at_ by omega, show ¬ at_ < t by omega]
            have eT : insT at_ n f t fr re = t := by simp [insT, show ¬ f = at_ by omega, show ¬ at_ < f by omega, show ¬ t = at_ by omega, show ¬ at_ < t by omega]
            have eX : endsX (insU at_ n) (⟨xid, f, t, fr, re, xA, xc, xps, xg⟩ : OverE) = ⟨xid, f, t, fr, re, xA, xc, xps, xg⟩ := by simp [endsX, withEnds, insU, eF, eT]
            rw [eT] at HNX HNE
            have HPT := Lib.hid (fun w1 => rplace_any (t) w1)
            have EX := Lib.hid eX
            clear eF eT eX
            cases hpt : placeI (t) with
            | true =>
              simp only [hpt] at HPT
              have HPP := Lib.hid hpt
              clear hpt HNE HP HNO
              go_wp2_with fail
              refine (HPT.out _).mono ?_
              rintro e w2 ⟨rfl, rfl⟩
              go_wp2_with fail
              go_roundw
              case rel => exact ⟨j + 1, by omega, by go_num, HNX.out HPP.out, HRN.out EX.out, HBA.out⟩
              case measure => simp [intOf]; omega
            | false =>
              simp only [hpt] at HPT
              obtain ⟨q1, q2⟩ := HNE.out hpt
              have HPP := Lib.hid hpt
              subst q1 q2
              clear hpt HNE HNX HP HNO
              go_wp2_with fail
              refine (HPT.out _).mono ?_
              rintro e w2 ⟨rfl, rfl⟩
              go_wp2_with fail
              go_ret
              exact RPost.same HSAME.out (HBA.out)
        · by_cases ct2 : t = at_
          · obtain rfl : at_ = t := by omega
            cases re with
            | true =>
              have b1 : (f == at_) = false := by simpa using (show ¬ f = at_ by omega)
              have d3 : decide (at_ < f) = false := decide_eq_false (by omega)
              have eF : insF at_ n f at_ fr true = f := by simp [insF, show ¬ f = at_ by omega, show ¬ at_ < f by omega]
              have eT : insT at_ n f at_ fr true = at_ + n := by simp [insT, show ¬ f = at_ by omega, show ¬ at_ < f by omega]
              have eX : endsX (insU at_ n) (⟨xid, f, at_, fr, true, xA, xc, xps, xg⟩ : OverE) = ⟨xid, f, at_ + n, fr, true, xA, xc, xps, xg⟩ := by simp [endsX, withEnds, insU, eF, eT]
              rw [eT] at HNX HNE
              have HPT := Lib.hid (fun w1 => rplace_any (at_ + n) w1)
              have EX := Lib.hid eX
              clear eF eT eX
              cases hpt : placeI (at_ + n) with
              | true =>
                simp only [hpt] at HPT
                have HPP := Lib.hid hpt
                clear hpt HNE HP HNO
                go_wp2_with fail
                refine (HPT.out _).mono ?_
                rintro e w2 ⟨rfl, rfl⟩
                go_wp2_with fail
                go_roundw
                case rel => exact ⟨j + 1, by omega, by go_num, HNX.out HPP.out, HRT.out _ EX.out, HBT.out _⟩
                case measure => simp [intOf]; omega
              | false =>
                simp only [hpt] at HPT
                obtain ⟨q1, q2⟩ := HNE.out hpt
                have HPP := Lib.hid hpt
                subst q1 q2
                clear hpt HNE HNX HP HNO
                go_wp2_with fail
                refine (HPT.out _).mono ?_
                rintro e w2 ⟨rfl, rfl⟩
                go_wp2_with fail
                go_ret
                exact RPost.same HSAME.out (HBT.out _)
            | false =>
              have b1 : (f == at_) = false := by simpa using (show ¬ f = at_ by omega)
              have d3 : decide (at_ < f) = false := decide_eq_false (by omega)
              have eF : insF at_ n f at_ fr false = f := by simp [insF, show ¬ f = at_ by omega, show ¬ at_ < f by omega]
              have eT : insT at_ n f at_ fr false = at_ := by simp [insT, show ¬ f = at_ by omega, show ¬ at_ < f by omega]
              have eX : endsX (insU at_ n) (⟨xid, f, at_, fr, false, xA, xc, xps, xg⟩ : OverE) = ⟨xid, f, at_, fr, false, xA, xc, xps, xg⟩ := by simp [endsX, withEnds, insU, eF, eT]
              rw [eT] at HNX HNE
              have HPT := Lib.hid (fun w1 => rplace_any (at_) w1)
              have EX := Lib.hid eX
              clear eF eT eX
              cases hpt : placeI (at_) with
              | true =>
                simp only [hpt] at HPT
                have HPP := Lib.hid hpt
                clear hpt HNE HP HNO
                go_wp2_with fail
                refine (HPT.out _).mono ?_
                rintro e w2 ⟨rfl, rfl⟩
                go_wp2_with fail
                go_roundw
                case rel => exact ⟨j + 1, by omega, by go_num, HNX.out HPP.out, HRN.out EX.out, HBA.out⟩
                case measure => simp [intOf]; omega
              | false =>
                simp only [hpt] at HPT
                obtain ⟨q1, q2⟩ := HNE.out hpt
                have HPP := Lib.hid hpt
                subst q1 q2
                clear hpt HNE HNX HP HNO
                go_wp2_with fail
                refine (HPT.out _).mono ?_
                rintro e w2 ⟨rfl, rfl⟩
                go_wp2_with fail
                go_ret
                exact RPost.same HSAME.out (HBA.out)
          · have b1 : (f == at_) = false := by simpa using (show ¬ f = at_ by omega)
            have d3 : decide (at_ < f) = false := decide_eq_false (by omega)
            have b2 : (t == at_) = false := by simpa using (show ¬ t = at_ by omega)
            have d4 : decide (at_ < t) = true := decide_eq_true (by omega)
            have b0 : (f == t) = false := by simpa using (show ¬ f = t by omega)
            have eF : insF at_ n f t fr re = f := by simp [insF, show ¬ f = at_ by omega, show ¬ at_ < f by omega, show ¬ t = at_ by omega, show at_ < t by omega]
            have eT : insT at_ n f t fr re = t + n := by simp [insT, show ¬ f = at_ by omega, show ¬ at_ < f by omega, show ¬ t = at_ by omega, show at_ < t by omega]
            have eX : endsX (insU at_ n) (⟨xid, f, t, fr, re, xA, xc, xps, xg⟩ : OverE) = ⟨xid, f, t + n, fr, re, xA, xc, xps, xg⟩ := by simp [endsX, withEnds, insU, eF, eT]
            rw [eT] at HNX HNE
            have HPT := Lib.hid (fun w1 => rplace_any (t + n) w1)
            have EX := Lib.hid eX
            clear eF eT eX
            cases hpt : placeI (t + n) with
            | true =>
              simp only [hpt] at HPT
              have HPP := Lib.hid hpt
              clear hpt HNE HP HNO
              go_wp2_with fail
              refine (HPT.out _).mono ?_
              rintro e w2 ⟨rfl, rfl⟩
              go_wp2_with fail
              go_roundw
              case rel => exact ⟨j + 1, by omega, by go_num, HNX.out HPP.out, HRT.out _ EX.out, HBT.out _⟩
              case measure => simp [intOf]; omega
            | false =>
              simp only [hpt] at HPT
              obtain ⟨q1, q2⟩ := HNE.out hpt
              have HPP := Lib.hid hpt
              subst q1 q2
              clear hpt HNE HNX HP HNO
              go_wp2_with fail
              refine (HPT.out _).mono ?_
              rintro e w2 ⟨rfl, rfl⟩
              go_wp2_with fail
              go_ret
              exact RPost.same HSAME.out (HBT.out _)
      · by_cases cf2 : f = at_
        · obtain rfl : at_ = f := by omega
          by_cases ct2 : t = at_
          · obtain rfl : at_ = t := by omega
            cases fr with
            | true =>
              cases re with
              | true =>
                have eF : insF at_ n at_ at_ true true = at_ + n := by simp [insF]
                have eT : insT at_ n at_ at_ true true = at_ + n := by simp [insT]
                have eX : endsX (insU at_ n) (⟨xid, at_, at_, true, true, xA, xc, xps, xg⟩ : OverE) = ⟨xid, at_ + n, at_ + n, true, true, xA, xc, xps, xg⟩ := by simp [endsX, withEnds, insU, eF, eT]
                rw [eT] at HNX HNE
                have HPT := Lib.hid (fun w1 => rplace_any (at_ + n) w1)
                have EX := Lib.hid eX
                clear eF eT eX
                cases hpt : placeI (at_ + n) with
                | true =>
                  simp only [hpt] at HPT
                  have HPP := Lib.hid hpt
                  clear hpt HNE HP HNO
                  go_wp2_with fail
                  refine (HPT.out _).mono ?_
                  rintro e w2 ⟨rfl, rfl⟩
                  go_wp2_with fail
                  go_roundw
                  case rel => exact ⟨j + 1, by omega, by go_num, HNX.out HPP.out, HRFT.out _ _ EX.out, HBFT.out _ _⟩
                  case measure => simp [intOf]; omega
                | false =>
                  simp only [hpt] at HPT
                  obtain ⟨q1, q2⟩ := HNE.out hpt
                  have HPP := Lib.hid hpt
                  subst q1 q2
                  clear hpt HNE HNX HP HNO
                  go_wp2_with fail
                  refine (HPT.out _).mono ?_
                  rintro e w2 ⟨rfl, rfl⟩
                  go_wp2_with fail
                  go_ret
                  exact RPost.same HSAME.out (HBFT.out _ _)
              | false =>
                have eF : insF at_ n at_ at_ true false = at_ := by simp [insF]
                have eT : insT at_ n at_ at_ true false = at_ := by simp [insT]
                have eX : endsX (insU at_ n) (⟨xid, at_, at_, true, false, xA, xc, xps, xg⟩ : OverE) = ⟨xid, at_, at_, true, false, xA, xc, xps, xg⟩ := by simp [endsX, withEnds, insU, eF, eT]
                rw [eT] at HNX HNE
                have HPT := Lib.hid (fun w1 => rplace_any (at_) w1)
                have EX := Lib.hid eX
                clear eF eT eX
                cases hpt : placeI (at_) with
                | true =>
                  simp only [hpt] at HPT
                  have HPP := Lib.hid hpt
                  clear hpt HNE HP HNO
                  go_wp2_with fail
                  refine (HPT.out _).mono ?_
                  rintro e w2 ⟨rfl, rfl⟩
                  go_wp2_with fail
                  go_roundw
                  case rel => exact ⟨j + 1, by omega, by go_num, HNX.out HPP.out, HRN.out EX.out, HBA.out⟩
                  case measure => simp [intOf]; omega
                | false =>
                  simp only [hpt] at HPT
                  obtain ⟨q1, q2⟩ := HNE.out hpt
                  have HPP := Lib.hid hpt
                  subst q1 q2
                  clear hpt HNE HNX HP HNO
                  go_wp2_with fail
                  refine (HPT.out _).mono ?_
                  rintro e w2 ⟨rfl, rfl⟩
                  go_wp2_with fail
                  go_ret
                  exact RPost.same HSAME.out (HBA.out)
            | false =>
              cases re with
              | true =>
                have eF : insF at_ n at_ at_ false true = at_ := by simp [insF]
                have eT : insT at_ n at_ at_ false true = at_ + n := by simp [insT]
                have eX : endsX (insU at_ n) (⟨xid, at_, at_, false, true, xA, xc, xps, xg⟩ : OverE) = ⟨xid, at_, at_ + n, false, true, xA, xc, xps, xg⟩ := by simp [endsX, withEnds, insU, eF, eT]
                rw [eT] at HNX HNE
                have HPT := Lib.hid (fun w1 => rplace_any (at_ + n) w1)
                have EX := Lib.hid eX
                clear eF eT eX
                cases hpt : placeI (at_ + n) with
                | true =>
                  simp only [hpt] at HPT
                  have HPP := Lib.hid hpt
                  clear hpt HNE HP HNO
                  go_wp2_with fail
                  refine (HPT.out _).mono ?_
                  rintro e w2 ⟨rfl, rfl⟩
                  go_wp2_with fail
                  go_roundw
                  case rel => exact ⟨j + 1, by omega, by go_num, HNX.out HPP.out, HRT.out _ EX.out, HBT.out _⟩
                  case measure => simp [intOf]; omega
                | false =>
                  simp only [hpt] at HPT
                  obtain ⟨q1, q2⟩ := HNE.out hpt
                  have HPP := Lib.hid hpt
                  subst q1 q2
                  clear hpt HNE HNX HP HNO
                  go_wp2_with fail
                  refine (HPT.out _).mono ?_
                  rintro e w2 ⟨rfl, rfl⟩
                  go_wp2_with fail
                  go_ret
                  exact RPost.same HSAME.out (HBT.out _)
              | false =>
                have eF : insF at_ n at_ at_ false false = at_ := by simp [insF]
                have eT : insT at_ n at_ at_ false false = at_ := by simp [insT]
                have eX : endsX (insU at_ n) (⟨xid, at_, at_, false, false, xA, xc, xps, xg⟩ : OverE) = ⟨xid, at_, at_, false, false, xA, xc, xps, xg⟩ := by simp [endsX, withEnds, insU, eF, eT]
                rw [eT] at HNX HNE
                have HPT := Lib.hid (fun w1 => rplace_any (at_) w1)
                have EX := Lib.hid eX
                clear eF eT eX
                cases hpt : placeI (at_) with
                | true =>
                  simp only [hpt] at HPT
                  have HPP := Lib.hid hpt
                  clear hpt HNE HP HNO
                  go_wp2_with fail
                  refine (HPT.out _).mono ?_
                  rintro e w2 ⟨rfl, rfl⟩
                  go_wp2_with fail
                  go_roundw
                  case rel => exact ⟨j + 1, by omega, by go_num, HNX.out HPP.out, HRN.out EX.out, HBA.out⟩
                  case measure => simp [intOf]; omega
                | false =>
                  simp only [hpt] at HPT
                  obtain ⟨q1, q2⟩ := HNE.out hpt
                  have HPP := Lib.hid hpt
                  subst q1 q2
                  clear hpt HNE HNX HP HNO
                  go_wp2_with fail
                  refine (HPT.out _).mono ?_
                  rintro e w2 ⟨rfl, rfl⟩
                  go_wp2_with fail
                  go_ret
                  exact RPost.same HSAME.out (HBA.out)
          · cases fr with
            | true =>
              have b2 : (t == at_) = false := by simpa using (show ¬ t = at_ by omega)
              have d4 : decide (at_ < t) = true := decide_eq_true (by omega)
              have b0 : (at_ == t) = false := by simpa using (show ¬ at_ = t by omega)
              have eF : insF at_ n at_ t true re = at_ + n := by simp [insF, show ¬ t = at_ by omega, show at_ < t by omega]
              have eT : insT at_ n at_ t true re = t + n := by simp [insT, show ¬ t = at_ by omega, show at_ < t by omega]
              have eX : endsX (insU at_ n) (⟨xid, at_, t, true, re, xA, xc, xps, xg⟩ : OverE) = ⟨xid, at_ + n, t + n, true, re, xA, xc, xps, xg⟩ := by simp [endsX, withEnds, insU, eF, eT]
              rw [eT] at HNX HNE
              have HPT := Lib.hid (fun w1 => rplace_any (t + n) w1)
              have EX := Lib.hid eX
              clear eF eT eX
              cases hpt : placeI (t + n) with
              | true =>
                simp only [hpt] at HPT
                have HPP := Lib.hid hpt
                clear hpt HNE HP HNO
                go_wp2_with fail
                refine (HPT.out _).mono ?_
                rintro e w2 ⟨rfl, rfl⟩
                go_wp2_with fail
                go_roundw
                case rel => exact ⟨j + 1, by omega, by go_num, HNX.out HPP.out, HRFT.out _ _ EX.out, HBFT.out _ _⟩
                case measure => simp [intOf]; omega
              | false =>
                simp only [hpt] at HPT
                obtain ⟨q1, q2⟩ := HNE.out hpt
                have HPP := Lib.hid hpt
                subst q1 q2
                clear hpt HNE HNX HP HNO
                go_wp2_with fail
                refine (HPT.out _).mono ?_
                rintro e w2 ⟨rfl, rfl⟩
                go_wp2_with fail
                go_ret
                exact RPost.same HSAME.out (HBFT.out _ _)
            | false =>
              have b2 : (t == at_) = false := by simpa using (show ¬ t = at_ by omega)
              have d4 : decide (at_ < t) = true := decide_eq_true (by omega)
              have b0 : (at_ == t) = false := by simpa using (show ¬ at_ = t by omega)
              have eF : insF at_ n at_ t false re = at_ := by simp [insF, show ¬ t = at_ by omega, show at_ < t by omega]
              have eT : insT at_ n at_ t false re = t + n := by simp [insT, show ¬ t = at_ by omega, show at_ < t by omega]
              have eX : endsX (insU at_ n) (⟨xid, at_, t, false, re, xA, xc, xps, xg⟩ : OverE) = ⟨xid, at_, t + n, false, re, xA, xc, xps, xg⟩ := by simp [endsX, withEnds, insU, eF, eT]
              rw [eT] at HNX HNE
              have HPT := Lib.hid (fun w1 => rplace_any (t + n) w1)
              have EX := Lib.hid eX
              clear eF eT eX
              cases hpt : placeI (t + n) with
              | true =>
                simp only [hpt] at HPT
                have HPP := Lib.hid hpt
                clear hpt HNE HP HNO
                go_wp2_with fail
                refine (HPT.out _).mono ?_
                rintro e w2 ⟨rfl, rfl⟩
                go_wp2_with fail
                go_roundw
                case rel => exact ⟨j + 1, by omega, by go_num, HNX.out HPP.out, HRT.out _ EX.out, HBT.out _⟩
                case measure => simp [intOf]; omega
              | false =>
                simp only [hpt] at HPT
                obtain ⟨q1, q2⟩ := HNE.out hpt
                have HPP := Lib.hid hpt
                subst q1 q2
                clear hpt HNE HNX HP HNO
                go_wp2_with fail
                refine (HPT.out _).mono ?_
                rintro e w2 ⟨rfl, rfl⟩
                go_wp2_with fail
                go_ret
                exact RPost.same HSAME.out (HBT.out _)
        · by_cases e0 : f = t
          · subst e0
            have b1 : (f == at_) = false := by simpa using (show ¬ f = at_ by omega)
            have d3 : decide (at_ < f) = true := decide_eq_true (by omega)
            have eF : insF at_ n f f fr re = f + n := by simp [insF, show ¬ f = at_ by omega, show at_ < f by omega]
            have eT : insT at_ n f f fr re = f + n := by simp [insT, show ¬ f = at_ by omega, show at_ < f by omega]
            have eX : endsX (insU at_ n) (⟨xid, f, f, fr, re, xA, xc, xps, xg⟩ : OverE) = ⟨xid, f + n, f + n, fr, re, xA, xc, xps, xg⟩ := by simp [endsX, withEnds, insU, eF, eT]
            rw [eT] at HNX HNE
            have HPT := Lib.hid (fun w1 => rplace_any (f + n) w1)
            have EX := Lib.hid eX
            clear eF eT eX
            cases hpt : placeI (f + n) with
            | true =>
              simp only [hpt] at HPT
              have HPP := Lib.hid hpt
              clear hpt HNE HP HNO
              go_wp2_with fail
              refine (HPT.out _).mono ?_
              rintro e w2 ⟨rfl, rfl⟩
              go_wp2_with fail
              go_roundw
              case rel => exact ⟨j + 1, by omega, by go_num, HNX.out HPP.out, HRFT.out _ _ EX.out, HBFT.out _ _⟩
              case measure => simp [intOf]; omega
            | false =>
              simp only [hpt] at HPT
              obtain ⟨q1, q2⟩ := HNE.out hpt
              have HPP := Lib.hid hpt
              subst q1 q2
              clear hpt HNE HNX HP HNO
              go_wp2_with fail
              refine (HPT.out _).mono ?_
              rintro e w2 ⟨rfl, rfl⟩
              go_wp2_with fail
              go_ret
              exact RPost.same HSAME.out (HBFT.out _ _)
          · have b1 : (f == at_) = false := by simpa using (show ¬ f = at_ by omega)
            have d3 : decide (at_ < f) = true := decide_eq_true (by omega)
            have b2 : (t == at_) = false := by simpa using (show ¬ t = at_ by omega)
            have d4 : decide (at_ < t) = true := decide_eq_true (by omega)
            have b0 : (f == t) = false := by simpa using e0
            have eF : insF at_ n f t fr re = f + n := by simp [insF, show ¬ f = at_ by omega, show at_ < f by omega, show ¬ t = at_ by omega, show at_ < t by omega]
            have eT : insT at_ n f t fr re = t + n := by simp [insT, show ¬ f = at_ by omega, show at_ < f by omega, show ¬ t = at_ by omega, show at_ < t by omega]
            have eX : endsX (insU at_ n) (⟨xid, f, t, fr, re, xA, xc, xps, xg⟩ : OverE) = ⟨xid, f + n, t + n, fr, re, xA, xc, xps, xg⟩ := by simp [endsX, withEnds, insU, eF, eT]
            rw [eT] at HNX HNE
            have HPT := Lib.hid (fun w1 => rplace_any (t + n) w1)
            have EX := Lib.hid eX
            clear eF eT eX
            cases hpt : placeI (t + n) with
            | true =>
              simp only [hpt] at HPT
              have HPP := Lib.hid hpt
              clear hpt HNE HP HNO
              go_wp2_with fail
              refine (HPT.out _).mono ?_
              rintro e w2 ⟨rfl, rfl⟩
              go_wp2_with fail
              go_roundw
              case rel => exact ⟨j + 1, by omega, by go_num, HNX.out HPP.out, HRFT.out _ _ EX.out, HBFT.out _ _⟩
              case measure => simp [intOf]; omega
            | false =>
              simp only [hpt] at HPT
              obtain ⟨q1, q2⟩ := HNE.out hpt
              have HPP := Lib.hid hpt
              subst q1 q2
              clear hpt HNE HNX HP HNO
              go_wp2_with fail
              refine (HPT.out _).mono ?_
              rintro e w2 ⟨rfl, rfl⟩
              go_wp2_with fail
              go_ret
              exact RPost.same HSAME.out (HBFT.out _ _)
    · obtain rfl : j = M.length := by omega
      have hok := insOk_of HNO.out
      have hml := movedK_length (insU at_ n) (Nat.le_refl M.length)
      have hM' : ∀ y ∈ movedK (insU at_ n) M M.length, ∃ z ∈ M, y = endsX (insU at_ n) z := fun y hy => by
        rw [movedK_all] at hy
        obtain ⟨z, hz, rfl⟩ := List.mem_map.1 hy
        exact ⟨z, hz, rfl⟩
      have hblk := (hbz.block p hplt).trans H.out.blk
      have HSET := Lib.hid (RefAt.setL (pr := pr) (ev := ev) (nx := nx) hblk (hown.low (Nat.zero_le _)) (fun y hy => by
          obtain ⟨z, hz, rfl⟩ := hM' y hy
          exact (H.out.ps z hz).up hbz) (fun y hy hp g o e => by
          obtain ⟨z, hz, rfl⟩ := hM' y hy
          exact ⟨(H.out.pb z hz hp g o e).1, fun e2 => by have h5 := hown.base e2; have h6 := (H.out.ps z hz).lt hp e; omega⟩) (fun e => by have := hown.base e; omega))
      have HDD : Hid ((movedK (insU at_ n) M M.length).map OverE.dat = Dn) := Lib.hid (by
        rw [HDN.out, hok, movedK_all, List.map_map, if_pos rfl, List.map_map]; rfl)
      have hE : er = 0 := by rw [HER.out, hok]; rfl
      have HM := Lib.hid hM'
      have HO := Lib.hid hown
      have HBZ := Lib.hid hbz
      have c0 := (H.out.up hbz).cell 0 _ rfl
      have f0 := (H.out.up hbz).fz 0
      subst hE
      clear hok hml hM' hblk hown hbz hlt
      go_wp2_with fail
      go_ret
      refine ⟨rfl, _, ⟨_, _, HSET.out, HDD.out, fun k hk => hk⟩, (Only.of_below HBZ.out).setCell (p := ⟨p, 0, none⟩) (HSS.out p (.inl rfl)) _, fun k hk => ?_⟩
      rcases hk with rfl | h3 | ⟨y, hy, hp, o, e⟩
      · exact .inl (HSS.out k (.inl rfl))
      · exact .inr (HO.out.base h3)
      · obtain ⟨z, hz, rfl⟩ := HM.out y hy
        exact .inl (HSS.out k (.inr (.inr ⟨z, hz, hp, o, e⟩)))
set_option maxHeartbeats 1000000 in
theorem r_ins (h : RSt w p pr ev D nx S) (hw : WfD D nx) (at_ n : Int) :
    Calls Tryz.prog 42 #[.pointer (some ⟨p, 0, none⟩), .int .i64 at_, .int .i64 n] w (RPost w p pr ev S (.int .i64 (insE D at_ n)) (insertedD D at_ n) nx) := by
  unfold insertedD insE
  cases hpl : placeI at_ with
  | false =>
    have HPL := Lib.hid (hpl ▸ rplace_any at_ w)
    have H := Lib.hid h
    simp only [Bool.false_eq_true, if_false, show ¬ (3 : Int) = 0 by omega]
    clear h hpl
    go_enter Tryz.func42, Tryz.ntmps42
    go_wp2_with fail
    refine HPL.out.mono ?_
    rintro e w0 ⟨rfl, rfl⟩
    go_wp2_with fail
    go_ret
    exact RPost.same H.out (Below.refl _ _)
  | true =>
    simp only [if_true]
    by_cases hn : n < 0 ∨ 65536 < n
    · have HPL := Lib.hid (hpl ▸ rplace_any at_ w)
      have H := Lib.hid h
      simp only [if_pos hn, show ¬ (2 : Int) = 0 by omega, if_false]
      clear h hpl
      rcases hn with hn | hn
      · have d1 : decide (n < (0 : Int)) = true := decide_eq_true hn
        go_enter Tryz.func42, Tryz.ntmps42
        go_wp2_with fail
        refine HPL.out.mono ?_
        rintro e w0 ⟨rfl, rfl⟩
        go_wp2_with fail
        go_ret
        exact RPost.same H.out (Below.refl _ _)
      · have d1 : decide (n < (0 : Int)) = false := decide_eq_false (by omega)
        have d2 : decide ((65536 : Int) < n) = true := decide_eq_true hn
        go_enter Tryz.func42, Tryz.ntmps42
        go_wp2_with fail
        refine HPL.out.mono ?_
        rintro e w0 ⟨rfl, rfl⟩
        go_wp2_with fail
        go_ret
        exact RPost.same H.out (Below.refl _ _)
    · simp only [if_neg hn]
      obtain ⟨v, M, h1, rfl, hS⟩ := h
      obtain ⟨g1, g2, g3, g4⟩ := dat_good rfl hw
      have := r_ins_main h1 hS at_ n hpl (by omega) (by omega) (fun x hx => ⟨(hw.good _ (List.mem_map.2 ⟨x, hx, rfl⟩)).f0, (hw.good _ (List.mem_map.2 ⟨x, hx, rfl⟩)).ft, (hw.good _ (List.mem_map.2 ⟨x, hx, rfl⟩)).t1⟩) (by omega)
      cases hok : insOk (M.map OverE.dat) at_ n with
      | true => rw [hok] at this; exact this
      | false => rw [hok] at this; exact this
end
end Go.Proofs.YthjkdeocdhdkaaaGreat
/- Overlays, the reference: Deleted. -/
namespace Go.Proofs.YthjkdeocdhdkaaaGreat
open Go.RowKit
set_option linter.unusedVariables false
set_option linter.unusedSimpArgs false
section
variable {w w' W : World} {x y : OverE} {D : List OverD} {M N : List OverE} {p : Nat} {pr ev nx nm : Int} {v v' : Value} {A : Option Addr} {S : Nat → Prop}
set_option maxHeartbeats 1000000 in
theorem rback_any (a f t : Int) (w : World) (ha0 : 1 ≤ a) (ha1 : a ≤ 1099511627776) (hf0 : 1 ≤ f) (hf1 : f ≤ t) (ht1 : t ≤ 1099511627776) :
    Calls Tryz.prog 69 #[.int .i64 a, .int .i64 f, .int .i64 t] w fun e w' => e = .returned (.int .i64 (backI a f t)) ∧ w = w' := by
  by_cases h1 : t ≤ a
  · have e1 : backI a f t = a - (t - f) := by unfold backI; rw [if_pos h1]
    have d1 : decide (t ≤ a) = true := decide_eq_true h1
    rw [e1]
    go_enter Tryz.func69, Tryz.ntmps69
    go_wp2
    all_goals (go_ret; exact ⟨rfl, rfl⟩)
  · have d1 : decide (t ≤ a) = false := decide_eq_false h1
    by_cases h2 : f < a
    · have e1 : backI a f t = f := by unfold backI; rw [if_neg h1, if_pos h2]
      have d2 : decide (f < a) = true := decide_eq_true h2
      rw [e1]
      go_enter Tryz.func69, Tryz.ntmps69
      go_wp2
      all_goals (go_ret; exact ⟨rfl, rfl⟩)
    · have e1 : backI a f t = a := by unfold backI; rw [if_neg h1, if_neg h2]
      have d2 : decide (f < a) = false := decide_eq_false h2
      rw [e1]
      go_enter Tryz.func69, Tryz.ntmps69
      go_wp2
      all_goals (go_ret; exact ⟨rfl, rfl⟩)
def RPostS (w : World) (p : Nat) (pr ev : Int) (S : Nat → Prop) (ids : List Int) (er : Int) (D : List OverD) (nx : Int) (e : Ending) (w' : World) : Prop :=
  ∃ gv, e = .returned (.tuple #[gv, .int .i64 er]) ∧ ROwn encI 3 1 w.heap.size w' gv ids ∧ ∃ S', RSt w' p pr ev D nx S' ∧ Only S w w' ∧ ∀ k, S' k → S k ∨ w.heap.size ≤ k ∧ gv.ownBlock ≠ some k
def delU (f t : Int) (x : OverE) : Int × Int := (backI x.f f t, backI x.t f t)
def leftE (ev f t : Int) (l : List OverE) : List OverE := (l.filter (fun x => !goesX ev f t x.dat)).map (endsX (delU f t))
def goneE (ev f t : Int) (l : List OverE) : List Int := (l.filter (fun x => goesX ev f t x.dat)).map OverE.id
theorem left_step {f t : Int} {j : Nat} (hx : M[j]? = some x) (b : Bool) (hb : goesX ev f t x.dat = b) : leftE ev f t (M.take (j + 1)) = leftE ev f t (M.take j) ++ (if b then [] else [endsX (delU f t) x]) := by
  unfold leftE
  rw [List.take_add_one, hx, Option.toList_some, List.filter_append, List.map_append]
  cases b <;> simp [List.filter_cons, hb]
theorem gone_step {f t : Int} {j : Nat} (hx : M[j]? = some x) (b : Bool) (hb : goesX ev f t x.dat = b) : goneE ev f t (M.take (j + 1)) = goneE ev f t (M.take j) ++ (if b then [x.id] else []) := by
  unfold goneE
  rw [List.take_add_one, hx, Option.toList_some, List.filter_append, List.map_append]
  cases b <;> simp [List.filter_cons, hb]
theorem left_dat (f t : Int) (l : List OverE) : (leftE ev f t l).map OverE.dat = leftD ev f t (l.map OverE.dat) := by
  unfold leftE leftD
  rw [List.filter_map, List.map_map, List.map_map]; rfl
theorem gone_dat (f t : Int) (l : List OverE) : goneE ev f t l = goneI ev f t (l.map OverE.dat) := by
  unfold goneE goneI
  rw [List.filter_map, List.map_map]; rfl
theorem left_len (f t : Int) (l : List OverE) : (leftE ev f t l).length ≤ l.length := by
  unfold leftE; rw [List.length_map]; exact List.length_filter_le _ _
theorem gone_len (f t : Int) (l : List OverE) : (goneE ev f t l).length ≤ l.length := by
  unfold goneE; rw [List.length_map]; exact List.length_filter_le _ _
theorem word_cases (ps : List PropE) (nm : Int) : ∃ b k n, wordV (valP ps nm) = .tuple #[.agg #[.int .i64 k, .int .i64 n], .bool b] ∧ ((b = false ∧ valP ps nm = none) ∨ (b = true ∧ valP ps nm = some (k, n))) := by
  cases h : valP ps nm with
  | none => exact ⟨false, 0, 0, rfl, .inl ⟨rfl, rfl⟩⟩
  | some kn => exact ⟨true, kn.1, kn.2, rfl, .inr ⟨rfl, rfl⟩⟩
/-- The two growing slices. -/
structure DelR (w wz : World) (vl vg : Value) (l : List OverE) (g : List Int) : Prop where
  lo : ROwn encO 69 6 w.heap.size wz vl l
  go : ROwn encI 3 1 w.heap.size wz vg g
  sep : ∀ q, vl.ownBlock = some q → vg.ownBlock ≠ some q
  bel : Below w.heap.size w wz
theorem DelR.up {w wz wx : World} {vl vg : Value} {l : List OverE} {g : List Int} (h : DelR w wz vl vg l g) (hb : Below wz.heap.size wz wx) : DelR w wx vl vg l g :=
  ⟨h.lo.up hb, h.go.up hb, h.sep, h.bel.trans (hb.mono h.bel.size)⟩
theorem DelR.left {w wz wx : World} {vl vg vl' : Value} {l : List OverE} {g : List Int} (h : DelR w wz vl vg l g) (h2 : ROwn encO 69 6 w.heap.size wx vl' (l ++ [x])) (hb : Below w.heap.size wz wx) (ho : Only (fun q => vl.ownBlock = some q) wz wx) (hv : vl'.ownBlock = vl.ownBlock ∨ ∃ q, vl'.ownBlock = some q ∧ wz.heap.size ≤ q) : DelR w wx vl' vg (l ++ [x]) g :=
  ⟨h2, h.go.kept fun q hq => ho.block q (h.go.lt hq) fun e => h.sep q e hq, fun q hq => by
    rcases hv with e | ⟨q', e, hq'⟩
    · exact h.sep q (e ▸ hq)
    · rw [e] at hq; cases hq
      intro e2; have := h.go.lt e2; omega, h.bel.trans hb⟩
theorem DelR.gone {w wz wx : World} {vl vg vg' : Value} {l : List OverE} {g : List Int} {id : Int} (h : DelR w wz vl vg l g) (h2 : ROwn encI 3 1 w.heap.size wx vg' (g ++ [id])) (hb : Below w.heap.size wz wx) (ho : Only (fun q => vg.ownBlock = some q) wz wx) (hv : vg'.ownBlock = vg.ownBlock ∨ ∃ q, vg'.ownBlock = some q ∧ wz.heap.size ≤ q) : DelR w wx vl vg' l (g ++ [id]) :=
  ⟨h.lo.kept fun q hq => ho.block q (h.lo.lt hq) fun e => h.sep q hq e, h2, fun q hq => by
    rcases hv with e | ⟨q', e, hq'⟩
    · rw [e]; exact h.sep q hq
    · rw [e]; intro e2; cases e2
      have := h.lo.lt hq; omega, h.bel.trans hb⟩
set_option maxRecDepth 100000 in
set_option maxHeartbeats 8000000 in
theorem r_del_main (h : RefAt w p pr ev v M nx) (hS : ∀ k, footR p v M k → S k) (f t : Int) (hr : rightI f t = true) (hf0 : 1 ≤ f) (hft : f ≤ t) (ht1 : t ≤ 1099511627776) (hp : ∀ x ∈ M, 1 ≤ x.f ∧ x.f ≤ x.t ∧ x.t ≤ 1099511627776) (hs : ∀ y ∈ M, SortedP y.ps ∧ y.ps.length ≤ 1000000) (hl : M.length ≤ 1000000) :
    Calls Tryz.prog 43 #[.pointer (some ⟨p, 0, none⟩), .int .i64 f, .int .i64 t] w (RPostS w p pr ev S (goneI ev f t (M.map OverE.dat)) 0 (leftD ev f t (M.map OverE.dat)) nx) := by
  have H := Lib.hid h
  have HSS := Lib.hid hS
  obtain ⟨AL, cl, rfl, hcl, hcm, hLs⟩ := h.own.shape eltO
  have HR := Lib.hid hLs
  have HRI := Lib.hid (hr ▸ rright_any f t w)
  have c0 := h.cell 0 _ rfl
  have c3 := h.cell 3 _ rfl
  have hplt := h.plt
  have HP := Lib.hid hp
  have HSO := Lib.hid hs
  have HF0 := Lib.hid hf0
  have HFT := Lib.hid hft
  have HT1 := Lib.hid ht1
  have C0 := Lib.hid c0
  have C3 := Lib.hid c3
  clear h hLs hr hp hs hS hf0 hft ht1 c3
  go_enter Tryz.func43, Tryz.ntmps43
  go_wp2_with fail
  refine HRI.out.mono ?_
  rintro e w0 ⟨rfl, rfl⟩
  go_wp2_with fail
  clear c0
  go_loopw [8, 9, 10] (fun vl vg vi wz => ∃ j : Nat, j ≤ M.length ∧ vi = .int .i64 j ∧ DelR w wz vl vg (leftE ev f t (M.take j)) (goneE ev f t (M.take j))) (fun _ _ vi _ => M.length - (intOf vi).toNat)
  case atStart => exact ⟨0, by omega, rfl, ROwn.nil _ _, ROwn.nil _ _, fun q hq => by simp [Value.ownBlock] at hq, Below.refl _ _⟩
  case round =>
    obtain ⟨j, hj, rfl, hD⟩ := hrel
    obtain ⟨wz, rfl⟩ : ∃ x, x = wr := ⟨_, rfl⟩
    have hcell := (hD.bel.cell (p := ⟨p, 0, none⟩) hplt).trans C0.out
    by_cases hlt : j < M.length
    · obtain ⟨x, hx⟩ : ∃ x, M[j]? = some x := ⟨_, List.getElem?_eq_getElem hlt⟩
      have hlt' : (j : Int) < M.length := by omega
      obtain ⟨g, o, hAe, hg, hc⟩ := (HR.out.up hD.bel).at_ eltO hx
      have hxm := List.mem_of_getElem? hx
      have hyps := (H.out.ps x hxm).up hD.bel
      have hpx := HP.out x hxm
      have hsx := HSO.out x hxm
      have k0 := hc 0 _ rfl
      have k1 := hc 1 _ rfl
      have k2 := hc 2 _ rfl
      have k3 := hc 3 _ rfl
      have k4 := hc 4 _ rfl
      have k5 := hc 5 _ rfl
      simp only [← Nat.add_assoc, Nat.add_zero] at k0 k1 k2 k3 k4 k5
      have HBK1 := Lib.hid (fun w1 => rback_any x.f f t w1 hpx.1 (by omega) HF0.out HFT.out HT1.out)
      have HBK2 := Lib.hid (fun w1 => rback_any x.t f t w1 (by omega) hpx.2.2 HF0.out HFT.out HT1.out)
      obtain ⟨b, vk, vn, ew, dw⟩ := word_cases x.ps ev
      have HVX := Lib.hid (fun (d : World) (hd : Below wz.heap.size wz d) => rvalue_any (hyps.up hd) hsx.1 x.c ev hsx.2)
      rw [ew] at HVX
      have hgo : goesX ev f t x.dat = (!(x.f == x.t) && ((backI x.f f t == backI x.t f t) && match valP x.ps ev with | some (k, n) => !(k == 1 && n == 0) | none => false)) := rfl
      have HLS := Lib.hid (fun b hb => left_step (ev := ev) (f := f) (t := t) hx b hb)
      have HGS := Lib.hid (fun b hb => gone_step (ev := ev) (f := f) (t := t) hx b hb)
      have HGO := Lib.hid hgo
      have hll : (leftE ev f t (M.take j)).length ≤ 1000000 := by have := left_len (ev := ev) f t (M.take j); simp at this; omega
      have hgl : (goneE ev f t (M.take j)).length ≤ 1000000 := by have := gone_len (ev := ev) f t (M.take j); simp at this; omega
      have HLL := Lib.hid hll
      have HGL := Lib.hid hgl
      obtain ⟨Ax, cx, hvx, _, _, _⟩ := hD.lo.shape eltO
      obtain ⟨Ay, cy, hvy, _, _, _⟩ := hD.go.shape eltI
      have HD := Lib.hid hD
      have hC3 := (hD.bel.cell (p := ⟨p, 3, none⟩) hplt).trans C3.out
      have hpz : p < wz.heap.size := Nat.lt_of_lt_of_le hplt hD.bel.size
      have HC3 := Lib.hid hC3
      have m0 := (MapKept.heap_alloc wz (.cells (encO x).toArray 69)).1
      have hbA := below1 wz (.cells (encO x).toArray 69)
      obtain ⟨xid, xf, xt, xfr, xre, xA, xc, xps, xg⟩ := x
      dsimp only at k0 k1 k2 k3 k4 k5 HBK1 HBK2 HVX HGO HLS HGS dw m0 hbA hpx
      generalize hLJ : leftE ev f t (M.take j) = LJ at HLS HLL hvx HD
      generalize hGJ : goneE ev f t (M.take j) = GJ at HGS HGL hvy HD
      have hX : endsX (delU f t) (⟨xid, xf, xt, xfr, xre, xA, xc, xps, xg⟩ : OverE) = ⟨xid, backI xf f t, backI xt f t, xfr, xre, xA, xc, xps, xg⟩ := rfl
      rw [hX] at HLS
      generalize LJ.length = lj at hvx
      generalize GJ.length = gj at hvy
      have e1 : ∃ f2, f2 = backI xf f t := ⟨_, rfl⟩
      have e2 : ∃ t2, t2 = backI xt f t := ⟨_, rfl⟩
      obtain ⟨f2, e1⟩ := e1
      obtain ⟨t2, e2⟩ := e2
      rw [← e1] at HBK1 HLS HGO
      rw [← e2] at HBK2 HLS HGO
      have m2 := al1 wz (.cells #[.int .i64 xid, .int .i64 f2, .int .i64 t2, .bool xfr, .bool xre, .slice xA xps.length xc] 69)
      have hb2 := (below1 wz (.cells #[.int .i64 xid, .int .i64 f2, .int .i64 t2, .bool xfr, .bool xre, .slice xA xps.length xc] 69)).drew
      clear hx hc hxm hyps hpx hsx hgo hll hgl hD hC3 m0 hbA e1 e2 hX hLJ hGJ ew
      subst hAe hvx hvy
      have k0' := Lib.hid k0
      cases hwas : (xf == xt) with
      | true =>
        have hq : xf = xt := by simpa using hwas
        clear hwas
        subst hq
        skip
        go_upto_region 10 with fail
        refine wp_region_mixT (wz.heap.size + 1) 11 (.one [0, 1, 2, 3, 5, 6, 7, 8] 4 (.one [10] 9 (.done []))) (by kernel_rfl) (fun c d v a w h => by cases d <;> exact h) (by kernel_rfl) ?_
        have B1 : ∀ d : UpW (wz.heap.size + 1) (wz.alloc (.cells #[.int .i64 xid, .int .i64 xf, .int .i64 xf, .bool xfr, .bool xre, .slice xA xps.length xc] 69)), d.w.cell? ⟨wz.heap.size, 1, none⟩ = some (.int .i64 xf) := fun d => cell_kind ((d.up.block wz.heap.size (by omega)).trans (MapKept.heap_alloc wz _).1) 1 _ rfl
        have B2 : ∀ d : UpW (wz.heap.size + 1) (wz.alloc (.cells #[.int .i64 xid, .int .i64 xf, .int .i64 xf, .bool xfr, .bool xre, .slice xA xps.length xc] 69)), d.w.cell? ⟨wz.heap.size, 2, none⟩ = some (.int .i64 xf) := fun d => cell_kind ((d.up.block wz.heap.size (by omega)).trans (MapKept.heap_alloc wz _).1) 2 _ rfl
        simp only [wpMixT, pk_nil, pk_cons, pushAt_zero, pushAt_succ, List.drop_succ_cons, List.drop_zero]
        repeat (go_big_quiet_step (fail))
        refine wpQuiet_nil ?_
        go_wp2_with fail
        refine (HBK1.out _).mono ?_
        rintro e w2 ⟨rfl, rfl⟩
        go_wp2_with fail
        refine thenQ_normal ⟨⟨⟨_, (Below.refl _ _).drew⟩, rfl⟩, ?_⟩
        repeat (go_big_quiet_step (fail))
        refine wpQuiet_nil ?_
        go_wp2_with fail
        refine (HBK2.out _).mono ?_
        rintro e w2 ⟨rfl, rfl⟩
        go_wp2_with fail
        refine thenQ_normal ⟨⟨⟨_, (Below.refl _ _).drew⟩, rfl⟩, ?_⟩
        refine wpQuiet_nil ?_
        clear B1 B2 k0 k1 k2 k3 k4 k5 hcell
        go_upto_region 11 with fail
        generalize hW : (wz.alloc (.cells #[.int .i64 xid, .int .i64 f2, .int .i64 t2, .bool xfr, .bool xre, .slice xA xps.length xc] 69)).drew = W1 at *
        clear hW
        have m3 : W1.heap[wz.heap.size]? = some (.cells #[.int .i64 xid, .int .i64 f2, .int .i64 t2, .bool xfr, .bool xre, .slice xA xps.length xc] 69 (0, 0)) := m2
        clear m2
        have Cp : ∀ d : UpW W1.heap.size W1, d.w.cell? ⟨p, 3, none⟩ = some (.int .i64 ev) := fun d => ((hb2.trans (d.up.mono hb2.size)).cell (p := ⟨p, 3, none⟩) hpz).trans HC3.out
        have hlz : wz.heap.size < W1.heap.size := (Array.getElem?_eq_some_iff.1 m3).1
        have B5 : ∀ d : UpW W1.heap.size W1, d.w.cell? ⟨wz.heap.size, 5, none⟩ = some (.slice xA xps.length xc) := fun d => cell_kind ((d.up.block wz.heap.size hlz).trans m3) 5 _ rfl
        go_cut [13, 14] from 28 to 87 (fun va vb wx => AtWord W1 vk vn b va vb wx)
        case first =>
          refine wp_region_mixT W1.heap.size 13 (.two [0, 1, 2, 3, 4, 5] 6 (.one [7, 8, 9] 10 (.one [] 11 (.done [12]))) 10 (.one [] 6 (.one [7, 8, 9] 11 (.done [12])))) (by kernel_rfl) (fun c d v a w h => by cases d <;> exact h) (by kernel_rfl) ?_
          simp only [wpMixT, pk_nil, pk_cons, pushAt_zero, pushAt_succ, List.drop_succ_cons, List.drop_zero]
          repeat (go_big_quiet_step (fail))
          refine wpQuiet_nil ?_
          refine ⟨?_, ?_⟩
          · go_wp2_with fail
            refine (HVX.out _ hb2.drew).mono ?_
            rintro e w2 ⟨rfl, b2⟩
            have hbq : Below W1.heap.size W1 w2 := (Below.refl _ W1).drew.trans b2
            go_wp2_with fail
            refine thenQ_normal ⟨⟨⟨_, hbq⟩, rfl⟩, ?_⟩
            repeat (go_big_quiet_step (fail))
            refine wpQuiet_nil ?_
            go_wp2_with fail
            refine thenQ_normal ⟨⟨⟨_, hbq.alloc hbq.size _⟩, rfl⟩, ?_⟩
            refine wpQuiet_nil ?_
            go_wp2_with fail
            refine thenQ_normal ⟨⟨⟨_, hbq.alloc hbq.size _⟩, rfl⟩, ?_⟩
            repeat (go_big_quiet_step (fail))
            refine wpQuiet_nil ?_
            go_wp2_with fail
            go_meet
            have hal := hbq.alloc hbq.size (.cells #[.int .i64 vk, .int .i64 vn] 29)
            exact ⟨w2.heap.size, rfl, rfl, hbq.size, by simp, hal, (MapKept.heap_alloc w2 _).1⟩
          · go_wp2_with fail
            refine thenQ_normal ⟨⟨⟨_, (below1 W1 _).drew⟩, rfl⟩, ?_⟩
            refine wpQuiet_nil ?_
            go_wp2_with fail
            refine (HVX.out _ (up2 hb2 (below1 W1 _)).drew).mono ?_
            rintro e w2 ⟨rfl, b2⟩
            have hbq : Below W1.heap.size W1 w2 := (below1 W1 (.cells #[.int .i64 0, .int .i64 0] 29)).drew.trans (b2.mono (by simp))
            have e2 : w2.heap[W1.heap.size]? = some (.cells #[.int .i64 0, .int .i64 0] 29 (0, 0)) := (b2.block W1.heap.size (by simp)).trans (MapKept.heap_alloc W1 _).1
            have q0 := cell_kind e2 0 _ rfl
            have q1 := cell_kind e2 1 _ rfl
            have z0 := fz_kind e2 0
            have z1 := fz_kind e2 1
            have hs2 := (hbq.setCell (p := ⟨W1.heap.size, 0, none⟩) (Nat.le_refl _) (.int .i64 vk)).setCell (p := ⟨W1.heap.size, 1, none⟩) (Nat.le_refl _) (.int .i64 vn)
            have g1 := heap_setCell_same w2 W1.heap.size 0 _ _ (.int .i64 vk) e2
            have g2 := heap_setCell_same _ W1.heap.size 1 _ _ (.int .i64 vn) g1
            go_wp2_with fail
            refine thenQ_normal ⟨⟨⟨_, hbq⟩, rfl⟩, ?_⟩
            repeat (go_big_quiet_step (fail))
            refine wpQuiet_nil ?_
            go_wp2_with fail
            refine thenQ_normal ⟨⟨⟨_, hs2⟩, rfl⟩, ?_⟩
            repeat (go_big_quiet_step (fail))
            refine wpQuiet_nil ?_
            go_wp2_with fail
            go_meet
            exact ⟨W1.heap.size, rfl, rfl, Nat.le_refl _, (Array.getElem?_eq_some_iff.1 g2).1, hs2, g2⟩
        case rest =>
          obtain ⟨q, rfl, rfl, hq1, hq2, hq3, hq4⟩ := hcut
          have r0 := cell_kind hq4 0 _ rfl
          have r1 := cell_kind hq4 1 _ rfl
          have hbc := hb2.trans (hq3.mono hb2.size)
          have m5 := (hq3.block wz.heap.size hlz).trans m3
          have b0 := cell_kind m5 0 _ rfl
          have b1 := cell_kind m5 1 _ rfl
          have b2 := cell_kind m5 2 _ rfl
          have b3 := cell_kind m5 3 _ rfl
          have b4 := cell_kind m5 4 _ rfl
          have b5 := cell_kind m5 5 _ rfl
          have hDc := HD.out.up hbc
          obtain ⟨vl2, wl2, hal, hol, hbl, honl, hvl⟩ := append_elem eltO hDc.lo hDc.bel.size ⟨xid, f2, t2, xfr, xre, xA, xc, xps, xg⟩ (by have := HLL.out; omega) (by omega)
          obtain ⟨vg2, wg2, hag, hog, hbg, hong, hvg⟩ := append_elem eltI hDc.go hDc.bel.size xid (by have := HGL.out; omega) (by omega)
          have HAL := Lib.hid hal
          have HAG := Lib.hid hag
          have HDL := Lib.hid (hDc.left hol hbl honl hvl)
          have HDG := Lib.hid (hDc.gone hog hbg hong hvg)
          clear B5 Cp m3 hlz hb2 hq3 hq4 m5 hDc hal hol hbl honl hvl hag hog hbg hong hvg hbc
          have hgo : goesX ev f t _ = false := HGO.out.trans (by simp)
          have hl1 := HLS.out false hgo
          have hg1 := HGS.out false hgo
          rw [if_neg (by decide)] at hl1
          rw [if_neg (by decide), List.append_nil] at hg1
          have HL1 := Lib.hid hl1
          have HG1 := Lib.hid hg1
          clear hgo hl1 hg1
          go_wp2_with (at_builtin; refine wpList_app_run rfl _ _ _ rfl rfl rfl HAL.out ?_)
          go_roundw
          case rel => exact ⟨j + 1, by omega, by go_num, by rw [HL1.out, HG1.out]; exact HDL.out⟩
          case measure => simp [intOf]; omega

      | false =>
        have HW := Lib.hid hwas
        have hwb := hwas
        clear hwas
        go_upto_region 10 with fail
        refine wp_region_mixT (wz.heap.size + 1) 11 (.one [0, 1, 2, 3, 5, 6, 7, 8] 4 (.one [10] 9 (.done []))) (by kernel_rfl) (fun c d v a w h => by cases d <;> exact h) (by kernel_rfl) ?_
        have B1 : ∀ d : UpW (wz.heap.size + 1) (wz.alloc (.cells #[.int .i64 xid, .int .i64 xf, .int .i64 xt, .bool xfr, .bool xre, .slice xA xps.length xc] 69)), d.w.cell? ⟨wz.heap.size, 1, none⟩ = some (.int .i64 xf) := fun d => cell_kind ((d.up.block wz.heap.size (by omega)).trans (MapKept.heap_alloc wz _).1) 1 _ rfl
        have B2 : ∀ d : UpW (wz.heap.size + 1) (wz.alloc (.cells #[.int .i64 xid, .int .i64 xf, .int .i64 xt, .bool xfr, .bool xre, .slice xA xps.length xc] 69)), d.w.cell? ⟨wz.heap.size, 2, none⟩ = some (.int .i64 xt) := fun d => cell_kind ((d.up.block wz.heap.size (by omega)).trans (MapKept.heap_alloc wz _).1) 2 _ rfl
        simp only [wpMixT, pk_nil, pk_cons, pushAt_zero, pushAt_succ, List.drop_succ_cons, List.drop_zero]
        repeat (go_big_quiet_step (fail))
        refine wpQuiet_nil ?_
        go_wp2_with fail
        refine (HBK1.out _).mono ?_
        rintro e w2 ⟨rfl, rfl⟩
        go_wp2_with fail
        refine thenQ_normal ⟨⟨⟨_, (Below.refl _ _).drew⟩, rfl⟩, ?_⟩
        repeat (go_big_quiet_step (fail))
        refine wpQuiet_nil ?_
        go_wp2_with fail
        refine (HBK2.out _).mono ?_
        rintro e w2 ⟨rfl, rfl⟩
        go_wp2_with fail
        refine thenQ_normal ⟨⟨⟨_, (Below.refl _ _).drew⟩, rfl⟩, ?_⟩
        refine wpQuiet_nil ?_
        clear B1 B2 k0 k1 k2 k3 k4 k5 hcell
        go_upto_region 11 with fail
        generalize hW : (wz.alloc (.cells #[.int .i64 xid, .int .i64 f2, .int .i64 t2, .bool xfr, .bool xre, .slice xA xps.length xc] 69)).drew = W1 at *
        clear hW
        have m3 : W1.heap[wz.heap.size]? = some (.cells #[.int .i64 xid, .int .i64 f2, .int .i64 t2, .bool xfr, .bool xre, .slice xA xps.length xc] 69 (0, 0)) := m2
        clear m2
        have Cp : ∀ d : UpW W1.heap.size W1, d.w.cell? ⟨p, 3, none⟩ = some (.int .i64 ev) := fun d => ((hb2.trans (d.up.mono hb2.size)).cell (p := ⟨p, 3, none⟩) hpz).trans HC3.out
        have hlz : wz.heap.size < W1.heap.size := (Array.getElem?_eq_some_iff.1 m3).1
        have B5 : ∀ d : UpW W1.heap.size W1, d.w.cell? ⟨wz.heap.size, 5, none⟩ = some (.slice xA xps.length xc) := fun d => cell_kind ((d.up.block wz.heap.size hlz).trans m3) 5 _ rfl
        go_cut [13, 14] from 28 to 87 (fun va vb wx => AtWord W1 vk vn b va vb wx)
        case first =>
          refine wp_region_mixT W1.heap.size 13 (.two [0, 1, 2, 3, 4, 5] 6 (.one [7, 8, 9] 10 (.one [] 11 (.done [12]))) 10 (.one [] 6 (.one [7, 8, 9] 11 (.done [12])))) (by kernel_rfl) (fun c d v a w h => by cases d <;> exact h) (by kernel_rfl) ?_
          simp only [wpMixT, pk_nil, pk_cons, pushAt_zero, pushAt_succ, List.drop_succ_cons, List.drop_zero]
          repeat (go_big_quiet_step (fail))
          refine wpQuiet_nil ?_
          refine ⟨?_, ?_⟩
          · go_wp2_with fail
            refine (HVX.out _ hb2.drew).mono ?_
            rintro e w2 ⟨rfl, b2⟩
            have hbq : Below W1.heap.size W1 w2 := (Below.refl _ W1).drew.trans b2
            go_wp2_with fail
            refine thenQ_normal ⟨⟨⟨_, hbq⟩, rfl⟩, ?_⟩
            repeat (go_big_quiet_step (fail))
            refine wpQuiet_nil ?_
            go_wp2_with fail
            refine thenQ_normal ⟨⟨⟨_, hbq.alloc hbq.size _⟩, rfl⟩, ?_⟩
            refine wpQuiet_nil ?_
            go_wp2_with fail
            refine thenQ_normal ⟨⟨⟨_, hbq.alloc hbq.size _⟩, rfl⟩, ?_⟩
            repeat (go_big_quiet_step (fail))
            refine wpQuiet_nil ?_
            go_wp2_with fail
            go_meet
            have hal := hbq.alloc hbq.size (.cells #[.int .i64 vk, .int .i64 vn] 29)
            exact ⟨w2.heap.size, rfl, rfl, hbq.size, by simp, hal, (MapKept.heap_alloc w2 _).1⟩
          · go_wp2_with fail
            refine thenQ_normal ⟨⟨⟨_, (below1 W1 _).drew⟩, rfl⟩, ?_⟩
            refine wpQuiet_nil ?_
            go_wp2_with fail
            refine (HVX.out _ (up2 hb2 (below1 W1 _)).drew).mono ?_
            rintro e w2 ⟨rfl, b2⟩
            have hbq : Below W1.heap.size W1 w2 := (below1 W1 (.cells #[.int .i64 0, .int .i64 0] 29)).drew.trans (b2.mono (by simp))
            have e2 : w2.heap[W1.heap.size]? = some (.cells #[.int .i64 0, .int .i64 0] 29 (0, 0)) := (b2.block W1.heap.size (by simp)).trans (MapKept.heap_alloc W1 _).1
            have q0 := cell_kind e2 0 _ rfl
            have q1 := cell_kind e2 1 _ rfl
            have z0 := fz_kind e2 0
            have z1 := fz_kind e2 1
            have hs2 := (hbq.setCell (p := ⟨W1.heap.size, 0, none⟩) (Nat.le_refl _) (.int .i64 vk)).setCell (p := ⟨W1.heap.size, 1, none⟩) (Nat.le_refl _) (.int .i64 vn)
            have g1 := heap_setCell_same w2 W1.heap.size 0 _ _ (.int .i64 vk) e2
            have g2 := heap_setCell_same _ W1.heap.size 1 _ _ (.int .i64 vn) g1
            go_wp2_with fail
            refine thenQ_normal ⟨⟨⟨_, hbq⟩, rfl⟩, ?_⟩
            repeat (go_big_quiet_step (fail))
            refine wpQuiet_nil ?_
            go_wp2_with fail
            refine thenQ_normal ⟨⟨⟨_, hs2⟩, rfl⟩, ?_⟩
            repeat (go_big_quiet_step (fail))
            refine wpQuiet_nil ?_
            go_wp2_with fail
            go_meet
            exact ⟨W1.heap.size, rfl, rfl, Nat.le_refl _, (Array.getElem?_eq_some_iff.1 g2).1, hs2, g2⟩
        case rest =>
          obtain ⟨q, rfl, rfl, hq1, hq2, hq3, hq4⟩ := hcut
          have r0 := cell_kind hq4 0 _ rfl
          have r1 := cell_kind hq4 1 _ rfl
          have hbc := hb2.trans (hq3.mono hb2.size)
          have m5 := (hq3.block wz.heap.size hlz).trans m3
          have b0 := cell_kind m5 0 _ rfl
          have b1 := cell_kind m5 1 _ rfl
          have b2 := cell_kind m5 2 _ rfl
          have b3 := cell_kind m5 3 _ rfl
          have b4 := cell_kind m5 4 _ rfl
          have b5 := cell_kind m5 5 _ rfl
          have hDc := HD.out.up hbc
          obtain ⟨vl2, wl2, hal, hol, hbl, honl, hvl⟩ := append_elem eltO hDc.lo hDc.bel.size ⟨xid, f2, t2, xfr, xre, xA, xc, xps, xg⟩ (by have := HLL.out; omega) (by omega)
          obtain ⟨vg2, wg2, hag, hog, hbg, hong, hvg⟩ := append_elem eltI hDc.go hDc.bel.size xid (by have := HGL.out; omega) (by omega)
          have HAL := Lib.hid hal
          have HAG := Lib.hid hag
          have HDL := Lib.hid (hDc.left hol hbl honl hvl)
          have HDG := Lib.hid (hDc.gone hog hbg hong hvg)
          clear B5 Cp m3 hlz hb2 hq3 hq4 m5 hDc hal hol hbl honl hvl hag hog hbg hong hvg hbc
          cases hft : (f2 == t2) with
          | false =>
            have HFT2 := Lib.hid hft
            have hgo : goesX ev f t _ = false := HGO.out.trans (by rw [HW.out, HFT2.out]; rfl)
            have hl1 := HLS.out false hgo
            have hg1 := HGS.out false hgo
            rw [if_neg (by decide)] at hl1
            rw [if_neg (by decide), List.append_nil] at hg1
            have HL1 := Lib.hid hl1
            have HG1 := Lib.hid hg1
            clear hgo hl1 hg1
            go_wp2_with (at_builtin; refine wpList_app_run rfl _ _ _ rfl rfl rfl HAL.out ?_)
            go_roundw
            case rel => exact ⟨j + 1, by omega, by go_num, by rw [HL1.out, HG1.out]; exact HDL.out⟩
            case measure => simp [intOf]; omega

          | true =>
            have hq : f2 = t2 := by simpa using hft
            clear hft
            subst hq
            rcases dw with ⟨rfl, dw⟩ | ⟨rfl, dw⟩
            · have DW := Lib.hid dw
              clear dw
              have hgo : goesX ev f t _ = false := HGO.out.trans (by rw [HW.out, DW.out]; simp)
              have hl1 := HLS.out false hgo
              have hg1 := HGS.out false hgo
              rw [if_neg (by decide)] at hl1
              rw [if_neg (by decide), List.append_nil] at hg1
              have HL1 := Lib.hid hl1
              have HG1 := Lib.hid hg1
              clear hgo hl1 hg1
              go_wp2_with (at_builtin; refine wpList_app_run rfl _ _ _ rfl rfl rfl HAL.out ?_)
              go_roundw
              case rel => exact ⟨j + 1, by omega, by go_num, by rw [HL1.out, HG1.out]; exact HDL.out⟩
              case measure => simp [intOf]; omega

            · have DW := Lib.hid dw
              clear dw
              have hnq := fun W => neqW vk vn W
              cases hkn : (vk == 1 && vn == 0) with
              | true =>
                rw [hkn] at hnq
                have HKN := Lib.hid hkn
                clear hkn
                have hgo : goesX ev f t _ = false := HGO.out.trans (by rw [HW.out, DW.out]; show (!false && (f2 == f2 && !(vk == 1 && vn == 0))) = _; rw [HKN.out]; simp)
                have hl1 := HLS.out false hgo
                have hg1 := HGS.out false hgo
                rw [if_neg (by decide)] at hl1
                rw [if_neg (by decide), List.append_nil] at hg1
                have HL1 := Lib.hid hl1
                have HG1 := Lib.hid hg1
                clear hgo hl1 hg1
                go_wp2_with (at_builtin; refine wpList_app_run rfl _ _ _ rfl rfl rfl HAL.out ?_)
                go_roundw
                case rel => exact ⟨j + 1, by omega, by go_num, by rw [HL1.out, HG1.out]; exact HDL.out⟩
                case measure => simp [intOf]; omega

              | false =>
                rw [hkn] at hnq
                have HKN := Lib.hid hkn
                clear hkn
                have hgo : goesX ev f t _ = true := HGO.out.trans (by rw [HW.out, DW.out]; show (!false && (f2 == f2 && !(vk == 1 && vn == 0))) = _; rw [HKN.out]; simp)
                have hl1 := HLS.out true hgo
                have hg1 := HGS.out true hgo
                rw [if_pos rfl, List.append_nil] at hl1
                rw [if_pos rfl] at hg1
                have HL1 := Lib.hid hl1
                have HG1 := Lib.hid hg1
                clear hgo hl1 hg1
                go_wp2_with (at_builtin; refine wpList_app_run rfl _ _ _ rfl rfl rfl HAG.out ?_)
                go_roundw
                case rel => exact ⟨j + 1, by omega, by go_num, by rw [HL1.out, HG1.out]; exact HDG.out⟩
                case measure => simp [intOf]; omega


    · obtain rfl : j = M.length := by omega
      rw [List.take_of_length_le (Nat.le_refl _)] at hD
      have hM' : ∀ y ∈ leftE ev f t M, ∃ z ∈ M, y = endsX (delU f t) z := fun y hy => by
        unfold leftE at hy
        obtain ⟨z, hz, rfl⟩ := List.mem_map.1 hy
        exact ⟨z, (List.mem_filter.1 hz).1, rfl⟩
      have hblk := (hD.bel.block p hplt).trans H.out.blk
      have HSET := Lib.hid (RefAt.setL (pr := pr) (ev := ev) (nx := nx) hblk (hD.lo.low (Nat.zero_le _)) (fun y hy => by
          obtain ⟨z, hz, rfl⟩ := hM' y hy
          exact (H.out.ps z hz).up hD.bel) (fun y hy hp g o e => by
          obtain ⟨z, hz, rfl⟩ := hM' y hy
          exact ⟨(H.out.pb z hz hp g o e).1, fun e2 => by have h5 := hD.lo.base e2; have h6 := (H.out.ps z hz).lt hp e; omega⟩) (fun e => by have := hD.lo.base e; omega))
      have HDD := Lib.hid (left_dat (ev := ev) f t M)
      have HGD := Lib.hid (gone_dat (ev := ev) f t M)
      have HM := Lib.hid hM'
      have HD := Lib.hid hD
      have f0 := (H.out.up hD.bel).fz 0
      obtain ⟨Ax, cx, hvx, _, _, _⟩ := hD.lo.shape eltO
      obtain ⟨Ay, cy, hvy, _, _, _⟩ := hD.go.shape eltI
      generalize (leftE ev f t M).length = lj at hvx
      generalize (goneE ev f t M).length = gj at hvy
      clear hM' hblk hD hlt
      subst hvx hvy
      go_wp2_with fail
      go_ret2
      refine ⟨_, rfl, ?_, _, ⟨_, _, HSET.out, HDD.out, fun k hk => hk⟩, (Only.of_below HD.out.bel).setCell (p := ⟨p, 0, none⟩) (HSS.out p (.inl rfl)) _, fun k hk => ?_⟩
      · rw [← HGD.out]
        exact HD.out.go.kept fun q hq => Below.heap_setCell _ _ _ _ (by have := HD.out.go.base hq; show q ≠ p; omega)
      · rcases hk with rfl | h3 | ⟨y, hy, hp, o, e⟩
        · exact .inl (HSS.out k (.inl rfl))
        · exact .inr ⟨HD.out.lo.base h3, HD.out.sep k h3⟩
        · obtain ⟨z, hz, rfl⟩ := HM.out y hy
          exact .inl (HSS.out k (.inr (.inr ⟨z, hz, hp, o, e⟩)))
set_option maxHeartbeats 1000000 in
theorem r_del (h : RSt w p pr ev D nx S) (hw : WfD D nx) (f t : Int) :
    Calls Tryz.prog 43 #[.pointer (some ⟨p, 0, none⟩), .int .i64 f, .int .i64 t] w (RPostS w p pr ev S (delI ev f t D) (delE f t) (delD ev f t D) nx) := by
  unfold delI delE delD
  cases hr : rightI f t with
  | false =>
    have HRI := Lib.hid (hr ▸ rright_any f t w)
    have H := Lib.hid h
    simp only [Bool.false_eq_true, if_false]
    clear h hr
    go_enter Tryz.func43, Tryz.ntmps43
    go_wp2_with fail
    refine HRI.out.mono ?_
    rintro e w0 ⟨rfl, rfl⟩
    go_wp2_with fail
    go_ret2
    exact ⟨_, rfl, ROwn.nil _ _, S, H.out, Only.refl _ _, fun k hk => .inl hk⟩
  | true =>
    simp only [if_true]
    obtain ⟨v, M, h1, rfl, hS⟩ := h
    obtain ⟨g1, g2, g3, g4⟩ := dat_good rfl hw
    have hr' := hr
    simp [rightI, placeI] at hr'
    exact r_del_main h1 hS f t hr (by omega) (by omega) (by omega) (fun x hx => ⟨(hw.good _ (List.mem_map.2 ⟨x, hx, rfl⟩)).f0, (hw.good _ (List.mem_map.2 ⟨x, hx, rfl⟩)).ft, (hw.good _ (List.mem_map.2 ⟨x, hx, rfl⟩)).t1⟩) (fun x hx => ⟨(g1 x hx).1, by have := (g1 x hx).2; omega⟩) (by omega)
end
end Go.Proofs.YthjkdeocdhdkaaaGreat
/- Overlays, the reference: All. -/
namespace Go.Proofs.YthjkdeocdhdkaaaGreat
open Go.RowKit
set_option linter.unusedVariables false
set_option linter.unusedSimpArgs false
section
variable {w w' W : World} {x y : OverE} {D : List OverD} {M N : List OverE} {p : Nat} {pr ev nx nm : Int} {v v' : Value} {A : Option Addr} {S : Nat → Prop}
set_option maxRecDepth 100000 in
set_option maxHeartbeats 4000000 in
theorem r_all (h : RefAt w p pr ev v M nx) (hp : ∀ x ∈ M, x.ps.length ≤ 1000000) (hl : M.length ≤ 1000000) :
    Calls Tryz.prog 12 #[.pointer (some ⟨p, 0, none⟩)] w (AllPost w (M.map OverE.dat)) := by
  obtain ⟨A, c, hv, hc1, hc2, hr⟩ := h.own.shape eltO
  subst hv
  have H := Lib.hid h
  have HR := Lib.hid hr
  have HPL := Lib.hid hp
  have hplt := h.plt
  have c0 := h.cell 0 _ rfl
  clear h hr hp
  go_enter Tryz.func12, Tryz.ntmps12
  go_wp2_with fail
  go_loopw [3, 4] (fun vo vi wz => ∃ (j : Nat) (N : List OverE), j ≤ M.length ∧ vi = .int .i64 j ∧ ROwn encO 69 6 w.heap.size wz vo N ∧ N.map OverE.dat = (M.map OverE.dat).take j ∧ PsIn wz w.heap.size vo N ∧ Below w.heap.size w wz) (fun _ vi _ => M.length - (intOf vi).toNat)
  case atStart => exact ⟨0, [], by omega, rfl, ROwn.nil _ _, rfl, fun y hy => by simp at hy, Below.refl _ _⟩
  case round =>
    obtain ⟨j, N, hj, rfl, hown, hN, hps, hbz⟩ := hrel
    obtain ⟨wz, rfl⟩ : ∃ x, x = wr := ⟨_, rfl⟩
    have hNl : N.length = j := by have := congrArg List.length hN; simp at this; omega
    have hcell := (hbz.cell (p := ⟨p, 0, none⟩) hplt).trans c0
    by_cases hlt : j < M.length
    · obtain ⟨x, hx⟩ : ∃ x, M[j]? = some x := ⟨_, List.getElem?_eq_getElem hlt⟩
      have hlt' : (j : Int) < M.length := by omega
      obtain ⟨g, o, hAe, hg, hc⟩ := (HR.out.up hbz).at_ eltO hx
      have hxm := List.mem_of_getElem? hx
      have hyps := (H.out.ps x hxm).up hbz
      have hpl := HPL.out x hxm
      have hdk : (M.map OverE.dat).take (j + 1) = (M.map OverE.dat).take j ++ [x.dat] := by
        rw [List.take_add_one, List.getElem?_map, hx]; rfl
      have k0 := hc 0 _ rfl
      have k1 := hc 1 _ rfl
      have k2 := hc 2 _ rfl
      have k3 := hc 3 _ rfl
      have k4 := hc 4 _ rfl
      have k5 := hc 5 _ rfl
      simp only [← Nat.add_assoc, Nat.add_zero] at k0 k1 k2 k3 k4 k5
      have hal1 := below1 wz (.cells (encO x).toArray 69)
      have hz1 : (wz.alloc (.cells (encO x).toArray 69)).heap.size = wz.heap.size + 1 := by simp
      obtain ⟨vp, w2, hap, hop, hgr, _⟩ := append_run eltP (ROwn.empty (enc := encP) (E := 71) (k := 3) (wz.heap.size + 1) (wz.alloc (.cells (encO x).toArray 69)) (by simp)) (by simp) ((hyps.up hal1).up (below1 _ (.cells #[] 71))) x.c (by simp; omega) (by omega)
      rw [List.nil_append] at hop
      rw [hz1] at hap
      have hb2 : Below (wz.heap.size + 1) (wz.alloc (.cells (encO x).toArray 69)) w2 := ((Below.refl _ _).alloc (by simp) (.cells #[] 71)).grown hgr (by simp) (fun k hk => by simp [Value.ownBlock] at hk; omega)
      have hB2 : Below wz.heap.size wz w2 := hal1.trans (hb2.mono (by omega))
      have hbx : w2.heap[wz.heap.size]? = some (.cells (encO x).toArray 69 (0, 0)) := (hb2.block _ (by omega)).trans (MapKept.heap_alloc wz _).1
      obtain ⟨Ap, cp, hvp, _, _, hrp⟩ := hop.shape eltP
      subst hvp
      have hB3 : Below wz.heap.size wz (w2.setCell ⟨wz.heap.size, 5, none⟩ (.slice Ap x.ps.length cp)) := hB2.setCell (p := ⟨wz.heap.size, 5, none⟩) (Nat.le_refl _) _
      have hpb : 0 < x.ps.length → ∀ q o, Ap = some ⟨q, o, none⟩ → wz.heap.size + 1 ≤ q := fun _ q o e => hop.base (by rw [e]; rfl)
      have hrp3 : RSl encP (w2.setCell ⟨wz.heap.size, 5, none⟩ (.slice Ap x.ps.length cp)) Ap x.ps := hrp.kept' (fun hp q o e => Below.heap_setCell _ _ _ _ (by have := hpb hp q o e; show q ≠ wz.heap.size; omega)) (by simp [World.setCell])
      obtain ⟨v4, w4, happ, hown4, hb4, hon4, hv4⟩ := append_elem eltO (hown.up hB3) (Nat.le_trans hbz.size hB3.size) ⟨x.id, x.f, x.t, x.fr, x.re, Ap, cp, x.ps, 0⟩ (by omega) (by omega)
      have hsn := (hps.up hB3).snoc (y := ⟨x.id, x.f, x.t, x.fr, x.re, Ap, cp, x.ps, 0⟩) (v' := v4) hon4 hrp3 (fun hp q o e => by
        have h5 := hpb hp q o e
        have h6 := hbz.size
        exact ⟨by omega, fun e' => by have := hown.lt e'; omega⟩) hv4
      have hz3 : (w2.setCell ⟨wz.heap.size, 5, none⟩ (.slice Ap x.ps.length cp)).heap.size = w2.heap.size := by simp [World.setCell]
      rw [hz3] at happ
      obtain ⟨A0, c0', hv0, _, _, _⟩ := hown.shape eltO
      obtain ⟨A4, c4, hv4', _, _, _⟩ := hown4.shape eltO
      have hl4 : (N ++ [(⟨x.id, x.f, x.t, x.fr, x.re, Ap, cp, x.ps, 0⟩ : OverE)]).length = j + 1 := by simp [hNl]
      rw [hl4] at hv4'
      rw [hNl] at hv0
      have b0 := cell_kind hbx 0 _ rfl
      have b1 := cell_kind hbx 1 _ rfl
      have b2 := cell_kind hbx 2 _ rfl
      have b3 := cell_kind hbx 3 _ rfl
      have b4 := cell_kind hbx 4 _ rfl
      have b5 := cell_kind hbx 5 _ rfl
      have y5 := fz_kind hbx 5
      have HP := Lib.hid hap
      have HP4 := Lib.hid happ
      have HO4 := Lib.hid hown4
      have HS := Lib.hid hsn
      have HB4 := Lib.hid ((hbz.trans (hB3.mono hbz.size)).trans hb4)
      have HDK := Lib.hid hdk
      have HNN := Lib.hid hN
      obtain ⟨xid, f, t, fr, re, xA, xc, xps, xg⟩ := x
      dsimp only at k0 k1 k2 k3 k4 k5 HP HP4 b0 b1 b2 b3 b4 b5
      clear hx hc hown hN hps hbz hxm hyps hpl hdk hal1 hz1 hap hop hgr hb2 hB2 hbx hrp hB3 hpb hrp3 happ hown4 hb4 hon4 hv4 hsn hz3 hl4
      subst hAe
      subst hv0
      subst hv4'
      go_wp2_with (first | (at_builtin; refine wpList_app_run rfl _ _ _ rfl rfl rfl HP.out ?_) | (at_builtin; refine wpList_app_run rfl _ _ _ rfl rfl rfl HP4.out ?_))
      go_roundw
      case rel => exact ⟨j + 1, _, by omega, by go_num, HO4.out, by rw [List.map_append, HNN.out, HDK.out]; rfl, HS.out, HB4.out⟩
      case measure => simp [intOf]; omega
    · obtain rfl : j = M.length := by omega
      obtain ⟨Av, cv, hv, _, _, _⟩ := hown.shape eltO
      have HO := Lib.hid hown
      have HM := Lib.hid hN
      have HPS := Lib.hid hps
      have HB := Lib.hid hbz
      generalize N.length = ml at hv
      clear hown hN hps hbz hNl
      subst hv
      go_wp2_with fail
      go_ret
      exact ⟨_, N, rfl, HO.out, by rw [HM.out, List.take_of_length_le (by simp)], HPS.out, HB.out⟩
theorem s_rall (h : RSt w p pr ev D nx S) (hw : WfD D nx) : Calls Tryz.prog 12 #[.pointer (some ⟨p, 0, none⟩)] w (AllPost w D) := by
  obtain ⟨v, M, h1, rfl, hS⟩ := h
  obtain ⟨g1, g2, g3, g4⟩ := dat_good rfl hw
  exact r_all h1 (fun x hx => by have := (g1 x hx).2; omega) (by omega)
end
end Go.Proofs.YthjkdeocdhdkaaaGreat
/- Overlays, the reference: Value. -/
namespace Go.Proofs.YthjkdeocdhdkaaaGreat
open Go.RowKit
set_option linter.unusedVariables false
set_option linter.unusedSimpArgs false
section
variable {w w' W : World} {x y : OverE} {D : List OverD} {M N : List OverE} {p : Nat} {pr ev nx nm : Int} {v v' : Value} {A : Option Addr} {S : Nat → Prop}
theorem rends_of {x : OverD} (hw : WfD D nx) (hx : x ∈ D) : endsD D x.id = some x := by
  cases he : endsD D x.id with
  | none =>
    unfold endsD at he
    have := List.find?_eq_none.1 he x hx
    simp at this
  | some y =>
    obtain ⟨h1, h2⟩ := endsD_mem he
    rw [inj_of_nodup hw.nodup h1 hx h2]
theorem rgetD_of {x : OverD} (hw : WfD D nx) (hx : x ∈ D) (nm : Int) : getD D x.id nm = valP x.ps nm := by
  unfold getD; rw [rends_of hw hx]
theorem winL_none {l : List OverD} (h : ∀ (j : Nat) (y : OverD), l[j]? = some y → valP y.ps nm = none) : winL l nm = .tuple #[.agg #[.int .i64 0, .int .i64 0], .int .i64 0, .bool false] := by
  unfold winL
  rw [List.find?_eq_none.2]
  intro z hz
  obtain ⟨j, hj⟩ := List.mem_iff_getElem?.1 (List.mem_reverse.1 hz)
  rw [h j z hj]; simp
theorem winL_at {l : List OverD} {k : Nat} {x : OverD} {a b : Int} (hx : l[k]? = some x) (hv : valP x.ps nm = some (a, b)) (h : ∀ (j : Nat) (y : OverD), k < j → l[j]? = some y → valP y.ps nm = none) :
    winL l nm = .tuple #[.agg #[.int .i64 a, .int .i64 b], .int .i64 x.id, .bool true] := by
  have hf : l.reverse.find? (fun x => (valP x.ps nm).isSome) = some x := by
    obtain ⟨hk, he⟩ := List.getElem?_eq_some_iff.1 hx
    have hl : l = l.take k ++ x :: l.drop (k + 1) := by
      conv => lhs; rw [← List.take_append_drop k l, List.drop_eq_getElem_cons hk, he]
    rw [hl, List.reverse_append, List.reverse_cons, List.append_assoc, List.find?_append, List.find?_eq_none.2, Option.none_or]
    · simp [hv]
    · intro z hz
      obtain ⟨j, hj⟩ := List.mem_iff_getElem?.1 (List.mem_reverse.1 hz)
      rw [List.getElem?_drop] at hj
      rw [h _ z (by omega) hj]; simp
  unfold winL
  rw [hf]
  simp [hv]
set_option maxRecDepth 100000 in
set_option maxHeartbeats 4000000 in
theorem r_value (h : RefAt w p pr ev v M nx) (hw : WfD (M.map OverE.dat) nx) (at_ nm : Int) :
    Calls Tryz.prog 25 #[.pointer (some ⟨p, 0, none⟩), .int .i64 at_, .int .i64 nm] w fun e w' => e = .returned (winL (sortD pr ((M.map OverE.dat).filter (covB at_))) nm) ∧ Below w.heap.size w w' := by
  obtain ⟨Ls, hLs⟩ : ∃ Ls, Ls = sortD pr ((M.map OverE.dat).filter (covB at_)) := ⟨_, rfl⟩
  obtain ⟨ret, hret⟩ : ∃ ret, ret = winL Ls nm := ⟨_, rfl⟩
  have hlen := hw.len
  rw [List.length_map] at hlen
  obtain ⟨g1, g2, g3, g4⟩ := dat_good rfl hw
  have gs : ∀ y ∈ M, SortedP y.ps ∧ y.ps.length ≤ 1000000 := fun y hy => ⟨(g1 y hy).1, by have := (g1 y hy).2; omega⟩
  have hnd : (M.map (fun y => y.dat.id)).Nodup := g3
  have hmem : ∀ y ∈ Ls, y ∈ M.map OverE.dat := fun y hy => by
    rw [hLs] at hy
    exact (List.mem_filter.1 ((sortD_perm pr _).mem_iff.1 hy)).1
  have hLl : Ls.length ≤ 1024 := by
    rw [hLs, (sortD_perm pr _).length_eq]
    have := List.length_filter_le (covB at_) (M.map OverE.dat)
    rw [List.length_map] at this; omega
  have hAT : Calls Tryz.prog 15 #[.pointer (some ⟨p, 0, none⟩), .int .i64 at_] (w.alloc (.cells #[.int .i64 0, .int .i64 0] 29)) (IsPost (w.alloc (.cells #[.int .i64 0, .int .i64 0] 29)) (Ls.map OverD.id)) := by
    rw [hLs]; exact r_at (h.up (below1 w _)) gs hnd (by omega) at_
  rw [← hLs, ← hret]
  have HRET := Lib.hid hret
  have HAT := Lib.hid hAT
  have HGET : Hid (∀ (k : Nat) (y : OverD) (w1 : World), Ls[k]? = some y → Below w.heap.size w w1 → Calls Tryz.prog 21 #[.pointer (some ⟨p, 0, none⟩), .int .i64 y.id, .int .i64 nm] w1 fun e w' => e = .returned (wordV (valP y.ps nm)) ∧ Below w1.heap.size w1 w') := Lib.hid fun k y w1 hy hb => by
    have := r_get (h.up hb) gs y.id nm (by omega)
    rwa [rgetD_of hw (hmem y (List.mem_of_getElem? hy))] at this
  have m0 := (MapKept.heap_alloc w (.cells #[.int .i64 0, .int .i64 0] 29)).1
  have hb0 := below1 w (.cells #[.int .i64 0, .int .i64 0] 29)
  have hz0 : (w.alloc (.cells #[.int .i64 0, .int .i64 0] 29)).heap.size = w.heap.size + 1 := by simp
  have M0 := Lib.hid m0
  have HB0 := Lib.hid hb0
  have HZ0 := Lib.hid hz0
  clear h hw hLs hret g1 g2 g3 g4 gs hnd hmem hAT m0 hb0 hz0
  go_enter Tryz.func25, Tryz.ntmps25
  go_wp2_with fail
  refine HAT.out.mono ?_
  rintro e wB ⟨va, rfl, hown, hbB⟩
  obtain ⟨Al, cl, hva, _, _, hrl⟩ := hown.shape eltI
  rw [List.length_map] at hva
  have HB := Lib.hid (up2 HB0.out hbB)
  have HMB := Lib.hid ((hbB.block w.heap.size (by simp)).trans M0.out)
  have HRL := Lib.hid hrl
  have HBS : Hid (∀ q o, Al = some ⟨q, o, none⟩ → w.heap.size + 1 ≤ q) := Lib.hid fun q o e => by
    have := hown.base (g := q) (by rw [hva, e]; rfl)
    rwa [HZ0.out] at this
  have HSZ : Hid (w.heap.size < wB.heap.size) := Lib.hid (by have := hbB.size; rw [HZ0.out] at this; omega)
  subst hva
  clear hown hbB hrl
  go_wp2_with fail
  go_loopw [10] (fun vi wz => ∃ k : Nat, k ≤ Ls.length ∧ vi = .int .i64 ((k : Int) - 1) ∧ (∀ (j : Nat) (y : OverD), k ≤ j → Ls[j]? = some y → valP y.ps nm = none) ∧ Below wB.heap.size wB wz) (fun vi _ => (intOf vi + 1).toNat)
  case atStart => exact ⟨Ls.length, Nat.le_refl _, rfl, fun j y hj hy => (by have := (List.getElem?_eq_some_iff.1 hy).1; omega), Below.refl _ _⟩
  case round =>
    obtain ⟨k, hk, rfl, hno, hbz⟩ := hrel
    obtain ⟨wz, rfl⟩ : ∃ x, x = wr := ⟨_, rfl⟩
    have hm := (hbz.block w.heap.size HSZ.out).trans HMB.out
    have HNO := Lib.hid hno
    have HBZ := Lib.hid hbz
    have HBW := Lib.hid (HB.out.trans (hbz.mono HB.out.size))
    clear hno
    by_cases hk0 : k = 0
    · subst hk0
      have HF := Lib.hid (HRET.out.trans (winL_none (fun j y hy => HNO.out j y (Nat.zero_le _) hy)))
      have q0 := cell_kind hm 0 _ rfl
      have q1 := cell_kind hm 1 _ rfl
      have z0 := fz_kind hm 0
      have z1 := fz_kind hm 1
      clear hm hbz
      go_wp2_with fail
      refine bodyPost_ret (v := .tuple #[.agg #[.int .i64 0, .int .i64 0], .int .i64 0, .bool false]) (by simp [results, Tryz.f25, go_sem, q0, q1]) rfl ⟨by rw [HF.out], ?_⟩
      exact (HBW.out.setCell (p := ⟨w.heap.size, 0, none⟩) (Nat.le_refl _) _).setCell (p := ⟨w.heap.size, 1, none⟩) (Nat.le_refl _) _
    · obtain ⟨k, rfl⟩ : ∃ k', k = k' + 1 := ⟨k - 1, by omega⟩
      obtain ⟨x, hx⟩ : ∃ x, Ls[k]? = some x := ⟨_, List.getElem?_eq_getElem (by omega)⟩
      obtain ⟨g, o, hAe, hg, hc⟩ := (HRL.out.up hbz).at_ eltI (show (Ls.map OverD.id)[k]? = some x.id by rw [List.getElem?_map, hx]; rfl)
      have k0 := hc 0 _ rfl
      simp only [Nat.mul_one, Nat.add_zero] at k0
      have HG := Lib.hid (HGET.out k x wz hx HBW.out)
      have hk1 : (k : Int) < Ls.length := by omega
      have hk2 : (0 : Int) ≤ (k : Int) := by omega
      have hkk : (((k + 1 : Nat) : Int) - 1) = (k : Int) := by omega
      have HX := Lib.hid hx
      have KK0 : Hid (wz.cell? ⟨g, o + k, none⟩ = some (.int .i64 x.id)) := Lib.hid k0
      have HGL := Lib.hid hg
      have HM := Lib.hid hm
      have hgw : ¬ g = w.heap.size := by have := HBS.out g o hAe; omega
      have hgw2 : ¬ w.heap.size = g := fun e => hgw e.symm
      rw [hkk]
      clear hx hc hbz hm hkk
      subst hAe
      cases hvp : valP x.ps nm with
      | none =>
        rw [hvp, show wordV (none : Option (Int × Int)) = .tuple #[.agg #[.int .i64 0, .int .i64 0], .bool false] from rfl] at HG
        have HV := Lib.hid hvp
        clear hvp
        go_wp2_with fail
        refine HG.out.mono ?_
        rintro e w2 ⟨rfl, b2⟩
        have HB2 := Lib.hid ((HBZ.out.trans (b2.mono HBZ.out.size)).trans ((below1 w2 (.cells #[.int .i64 0, .int .i64 0] 29)).mono (Nat.le_trans HBZ.out.size b2.size)))
        clear b2
        go_wp2_with fail
        go_roundw
        case rel =>
          refine ⟨k, by omega, by go_num, fun j y hj hy => ?_, HB2.out⟩
          rcases Nat.lt_or_ge k j with h1 | h1
          · exact HNO.out j y (by omega) hy
          · obtain rfl : j = k := by omega
            rw [HX.out] at hy; cases hy; exact HV.out
        case measure => simp [intOf]
      | some kn =>
        obtain ⟨vk, vn⟩ := kn
        rw [hvp, show wordV (some (vk, vn)) = .tuple #[.agg #[.int .i64 vk, .int .i64 vn], .bool true] from rfl] at HG
        have HF := Lib.hid (HRET.out.trans (winL_at HX.out hvp (fun j y hj hy => HNO.out j y (by omega) hy)))
        clear hvp
        go_wp2_with fail
        refine HG.out.mono ?_
        rintro e w2 ⟨rfl, b2⟩
        have hlt2 : w.heap.size < w2.heap.size := by have := HSZ.out; have := HBZ.out.size; have := b2.size; omega
        have c2 := (b2.cell (p := ⟨g, o + k, none⟩) HGL.out).trans KK0.out
        have e2 := (b2.block w.heap.size (by have := HSZ.out; have := HBZ.out.size; omega)).trans HM.out
        have q0 := cell_kind e2 0 _ rfl
        have q1 := cell_kind e2 1 _ rfl
        have z0 := fz_kind e2 0
        have z1 := fz_kind e2 1
        have hg2 : g < w2.heap.size := Nat.lt_of_lt_of_le HGL.out b2.size
        have HB2 := Lib.hid (HBW.out.trans (b2.mono HBW.out.size))
        have h8 := heap_setCell_same _ w.heap.size 1 _ _ (.int .i64 vn) (heap_setCell_same w2 w.heap.size 0 _ _ (.int .i64 vk) e2)
        have h9 := ((MapKept.heap_alloc ((w2.setCell ⟨w.heap.size, 0, none⟩ (.int .i64 vk)).setCell ⟨w.heap.size, 1, none⟩ (.int .i64 vn)) (.cells #[.int .i64 vk, .int .i64 vn] 29)).2 w.heap.size (by simp [World.setCell]; exact hlt2)).trans h8
        have u0 := Lib.hid (cell_kind h9 0 _ rfl)
        have u1 := Lib.hid (cell_kind h9 1 _ rfl)
        clear b2 e2 k0 h8 h9
        go_wp2_with fail
        go_region
        all_goals go_wp2_with fail
        all_goals
          refine bodyPost_ret (v := .tuple #[.agg #[.int .i64 vk, .int .i64 vn], .int .i64 x.id, .bool true]) (by simp [results, Tryz.f25, go_sem, u0.out, u1.out]) rfl ⟨by rw [HF.out], ?_⟩
          exact (((HB2.out.setCell (p := ⟨w.heap.size, 0, none⟩) (Nat.le_refl _) _).setCell (p := ⟨w.heap.size, 1, none⟩) (Nat.le_refl _) _).alloc (by simp [World.setCell]; exact HB2.out.size) _).drew
theorem s_rvalue (h : RSt w p pr ev D nx S) (hw : WfD D nx) (at_ nm : Int) : Calls Tryz.prog 25 #[.pointer (some ⟨p, 0, none⟩), .int .i64 at_, .int .i64 nm] w fun e w' => e = .returned (winL (sortD pr (D.filter (covB at_))) nm) ∧ Below w.heap.size w w' := by
  obtain ⟨v, M, h1, rfl, hS⟩ := h
  exact r_value h1 hw at_ nm
end
end Go.Proofs.YthjkdeocdhdkaaaGreat
/- Overlays, the reference: In. -/
namespace Go.Proofs.YthjkdeocdhdkaaaGreat
open Go.RowKit
set_option linter.unusedVariables false
set_option linter.unusedSimpArgs false
section
variable {w w' W : World} {x y : OverE} {D : List OverD} {M : List OverE} {p : Nat} {pr ev nx nm : Int} {v v' : Value} {A : Option Addr}
set_option maxRecDepth 100000 in
set_option maxHeartbeats 4000000 in
theorem r_in (h : RefAt w p pr ev v M nx) (hs : ∀ y ∈ M, SortedP y.ps ∧ y.ps.length ≤ 1000000) (hn : (M.map (fun y => y.dat.id)).Nodup) (hl : M.length ≤ 1000000) (f t : Int) :
    Calls Tryz.prog 17 #[.pointer (some ⟨p, 0, none⟩), .int .i64 f, .int .i64 t] w (IsPost w (inI pr (M.map OverE.dat) f t)) := by
  obtain ⟨A, c, hv, hc1, hc2, hr⟩ := h.own.shape eltO
  subst hv
  have H := Lib.hid h
  have HR := Lib.hid hr
  have HS := Lib.hid hs
  have HN := Lib.hid hn
  have hplt := h.plt
  have c0 := h.cell 0 _ rfl
  clear h hr hs hn
  go_enter Tryz.func17, Tryz.ntmps17
  go_wp2_with fail
  go_loopw [7, 8] (fun vl vi wz => ∃ j : Nat, j ≤ M.length ∧ vi = .int .i64 j ∧ ROwn encO 69 6 w.heap.size wz vl ((M.take j).filter (fun y => inB f t y.dat)) ∧ Below w.heap.size w wz) (fun _ vi _ => M.length - (intOf vi).toNat)
  case atStart => exact ⟨0, by omega, rfl, ROwn.nil _ _, Below.refl _ _⟩
  case round =>
    obtain ⟨j, hj, rfl, hown, hbz⟩ := hrel
    obtain ⟨wz, rfl⟩ : ∃ x, x = wr := ⟨_, rfl⟩
    have hcell := (hbz.cell (p := ⟨p, 0, none⟩) hplt).trans c0
    by_cases hft : f ≤ t
    · by_cases hlt : j < M.length
      · obtain ⟨y, hy⟩ : ∃ y, M[j]? = some y := ⟨_, List.getElem?_eq_getElem hlt⟩
        have hlt' : (j : Int) < M.length := by omega
        obtain ⟨g, o, hAe, hg, hc⟩ := (HR.out.up hbz).at_ eltO hy
        have k0 := hc 0 _ rfl
        have k1 := hc 1 _ rfl
        have k2 := hc 2 _ rfl
        have k3 := hc 3 _ rfl
        have k4 := hc 4 _ rfl
        have k5 := hc 5 _ rfl
        simp only [← Nat.add_assoc, Nat.add_zero] at k0 k1 k2 k3 k4 k5
        have HTK : (M.take (j + 1)).filter (fun y => inB f t y.dat) = (M.take j).filter (fun y => inB f t y.dat) ++ (if inB f t y.dat then [y] else []) := by
          rw [List.take_add_one, hy, Option.toList_some, List.filter_append]; simp only [List.filter_cons, List.filter_nil]
        have hal := below1 wz (.cells (encO y).toArray 69)
        have hb1 : Below w.heap.size w (wz.alloc (.cells (encO y).toArray 69)) := hbz.trans (hal.mono hbz.size)
        obtain ⟨v2, w2, happ, hown2, hb2, _, _⟩ := append_elem eltO (hown.up hal) hb1.size y (by have := List.length_filter_le (fun y : OverE => inB f t y.dat) (M.take j); simp at this ⊢; omega) (by omega)
        have hz1 : (wz.alloc (.cells (encO y).toArray 69)).heap.size = wz.heap.size + 1 := by simp
        have HTK := Lib.hid HTK
        have HO := Lib.hid (hown.up hal)
        have HB := Lib.hid hbz
        have HB1 := Lib.hid hb1
        rw [hz1] at happ
        have HP := Lib.hid happ
        have HO2 := Lib.hid hown2
        have HB2 := Lib.hid (hb1.trans hb2)
        clear hal hb1 hb2 hz1
        obtain ⟨yid, yf, yt, yfr, yre, yA, yc, yps, yg⟩ := y
        dsimp only at k0 k1 k2 k3 k4 k5 HP HO2
        clear hy hc happ hown2 hown hbz
        subst hAe
        by_cases e0 : yf = yt
        · subst e0
          by_cases e1 : f ≤ yf
          · by_cases e2 : yf ≤ t
            · have hcv : inB f t (OverE.dat ⟨yid, yf, yf, yfr, yre, yA, yc, yps, yg⟩) = true := by simp [inB, OverE.dat, e1, e2]
              rw [hcv, if_pos rfl] at HTK
              clear hcv
              go_wp2_with (at_builtin; refine wpList_app_run rfl _ _ _ rfl rfl rfl HP.out ?_)
              exact ⟨⟨j + 1, by omega, by go_num, by rw [HTK.out]; exact HO2.out, HB2.out⟩, by simp [intOf]; omega⟩
            · have hcv : inB f t (OverE.dat ⟨yid, yf, yf, yfr, yre, yA, yc, yps, yg⟩) = false := by simp [inB, OverE.dat, e2]
              rw [hcv, if_neg (by decide), List.append_nil] at HTK
              clear hcv
              go_wp2_with fail
              exact ⟨⟨j + 1, by omega, by go_num, by rw [HTK.out]; exact HO.out, HB1.out⟩, by simp [intOf]; omega⟩
          · have hcv : inB f t (OverE.dat ⟨yid, yf, yf, yfr, yre, yA, yc, yps, yg⟩) = false := by simp [inB, OverE.dat, e1]
            rw [hcv, if_neg (by decide), List.append_nil] at HTK
            clear hcv
            go_wp2_with fail
            exact ⟨⟨j + 1, by omega, by go_num, by rw [HTK.out]; exact HO.out, HB1.out⟩, by simp [intOf]; omega⟩
        · have be0 : (yf == yt) = false := by simpa using e0
          by_cases e1 : yf < t
          · by_cases e2 : f < yt
            · by_cases e3 : f < t
              · have hcv : inB f t (OverE.dat ⟨yid, yf, yt, yfr, yre, yA, yc, yps, yg⟩) = true := by simp [inB, OverE.dat, e0, e1, e2, e3]
                rw [hcv, if_pos rfl] at HTK
                clear hcv
                go_wp2_with (at_builtin; refine wpList_app_run rfl _ _ _ rfl rfl rfl HP.out ?_)
                exact ⟨⟨j + 1, by omega, by go_num, by rw [HTK.out]; exact HO2.out, HB2.out⟩, by simp [intOf]; omega⟩
              · have hcv : inB f t (OverE.dat ⟨yid, yf, yt, yfr, yre, yA, yc, yps, yg⟩) = false := by simp [inB, OverE.dat, e0, e3]
                rw [hcv, if_neg (by decide), List.append_nil] at HTK
                clear hcv
                go_wp2_with fail
                exact ⟨⟨j + 1, by omega, by go_num, by rw [HTK.out]; exact HO.out, HB1.out⟩, by simp [intOf]; omega⟩
            · have hcv : inB f t (OverE.dat ⟨yid, yf, yt, yfr, yre, yA, yc, yps, yg⟩) = false := by simp [inB, OverE.dat, e0, e2]
              rw [hcv, if_neg (by decide), List.append_nil] at HTK
              clear hcv
              go_wp2_with fail
              exact ⟨⟨j + 1, by omega, by go_num, by rw [HTK.out]; exact HO.out, HB1.out⟩, by simp [intOf]; omega⟩
          · have hcv : inB f t (OverE.dat ⟨yid, yf, yt, yfr, yre, yA, yc, yps, yg⟩) = false := by simp [inB, OverE.dat, e0, e1]
            rw [hcv, if_neg (by decide), List.append_nil] at HTK
            clear hcv
            go_wp2_with fail
            exact ⟨⟨j + 1, by omega, by go_num, by rw [HTK.out]; exact HO.out, HB1.out⟩, by simp [intOf]; omega⟩
      · obtain rfl : j = M.length := by omega
        rw [List.take_of_length_le (Nat.le_refl _)] at hown
        have hfm : (M.filter (fun y => inB f t y.dat)).map OverE.dat = (M.map OverE.dat).filter (inB f t) := by rw [List.filter_map]; rfl
        have hsub : ∀ y ∈ M.filter (fun y => inB f t y.dat), y ∈ M := fun y hy => (List.mem_filter.1 hy).1
        have hfl : (M.filter (fun y => inB f t y.dat)).length ≤ 1000000 := Nat.le_trans (List.length_filter_le _ _) hl
        have hnd : ((M.filter (fun y => inB f t y.dat)).map (fun y => y.dat.id)).Nodup := (List.filter_sublist.map _).nodup HN.out
        obtain ⟨Al, cl, hvl, _, _, hrl⟩ := hown.shape eltO
        have hwz := H.out.up hbz
        have HO := Lib.hid (r_order (w := wz) (p := p) (pr := pr) (A := Al) ⟨hwz.cell 2 _ rfl, hwz.plt, hrl, fun y hy => hwz.ps y (hsub y hy), fun y hy => HS.out y (hsub y hy)⟩ cl hfl hnd)
        rw [hfm] at HO
        have HBZ := Lib.hid hbz
        subst hvl
        clear hown hfm hsub hfl hnd hrl hwz hbz
        go_wp2_with fail
        refine HO.out.mono ?_
        rintro e w2 ⟨v2, rfl, ho2, hb2⟩
        go_wp2_with fail
        go_ret
        exact ⟨_, rfl, ho2.low HBZ.out.size, HBZ.out.trans (hb2.mono HBZ.out.size)⟩
    · have hemp : ∀ K : List OverE, K.filter (fun y => inB f t y.dat) = [] := fun K => List.filter_eq_nil_iff.2 fun z _ => by
        unfold inB; split <;> simp <;> omega
      rw [show (M.take j).filter (fun y => inB f t y.dat) = M.filter (fun y => inB f t y.dat) by rw [hemp, hemp]] at hown
      clear hemp
      have hfm : (M.filter (fun y => inB f t y.dat)).map OverE.dat = (M.map OverE.dat).filter (inB f t) := by rw [List.filter_map]; rfl
      have hsub : ∀ y ∈ M.filter (fun y => inB f t y.dat), y ∈ M := fun y hy => (List.mem_filter.1 hy).1
      have hfl : (M.filter (fun y => inB f t y.dat)).length ≤ 1000000 := Nat.le_trans (List.length_filter_le _ _) hl
      have hnd : ((M.filter (fun y => inB f t y.dat)).map (fun y => y.dat.id)).Nodup := (List.filter_sublist.map _).nodup HN.out
      obtain ⟨Al, cl, hvl, _, _, hrl⟩ := hown.shape eltO
      have hwz := H.out.up hbz
      have HO := Lib.hid (r_order (w := wz) (p := p) (pr := pr) (A := Al) ⟨hwz.cell 2 _ rfl, hwz.plt, hrl, fun y hy => hwz.ps y (hsub y hy), fun y hy => HS.out y (hsub y hy)⟩ cl hfl hnd)
      rw [hfm] at HO
      have HBZ := Lib.hid hbz
      subst hvl
      clear hown hfm hsub hfl hnd hrl hwz hbz
      go_wp2_with fail
      all_goals
        refine HO.out.mono ?_
        rintro e w2 ⟨v2, rfl, ho2, hb2⟩
        go_wp2_with fail
        go_ret
        exact ⟨_, rfl, ho2.low HBZ.out.size, HBZ.out.trans (hb2.mono HBZ.out.size)⟩
end
end Go.Proofs.YthjkdeocdhdkaaaGreat
/- copyistlaw18.does: one act on the reference, in plain terms. -/
namespace Go.Proofs.YthjkdeocdhdkaaaGreat
open Go.RowKit
set_option linter.unusedVariables false
set_option linter.unusedSimpArgs false
section
variable {w w' W : World} {D : List OverD} {p : Nat} {pr ev nx : Int} {S : Nat → Prop}
theorem RPost.slice {ret : Int} {e : Ending} (h : RPost w p pr ev S (.int .i64 ret) D nx e w') : e = .returned (.int .i64 ret) ∧ RPostS w p pr ev S [] ret D nx (.returned (.tuple #[.slice none 0 0, .int .i64 ret])) w' := by
  obtain ⟨he, S', h1, h2, h3⟩ := h
  exact ⟨he, _, rfl, ROwn.nil _ _, S', h1, h2, fun k hk => (h3 k hk).imp (fun h => h) fun h => ⟨h, by simp [Value.ownBlock]⟩⟩
theorem RPostS.after {ids : List Int} {er : Int} {e : Ending} {o : Obj} {D' : List OverD} {nx' : Int} (h : RPostS (w.alloc o) p pr ev S ids er D' nx' e w') : RPostS w p pr ev S ids er D' nx' e w' := by
  have hb := below1 w o
  have hz := hb.size
  obtain ⟨gv, he, h1, S', h2, h3, h4⟩ := h
  exact ⟨gv, he, h1.low hz, S', h2, (Only.of_below hb).trans h3, fun k hk => (h4 k hk).imp (fun h => h) fun h => ⟨by omega, h.2⟩⟩
set_option maxRecDepth 100000 in
set_option maxHeartbeats 4000000 in
theorem does_any (h : RSt w p pr ev D nx S) (hw : WfD D nx) (a : Act18) (hn : nx ≤ 1000000000) : Calls Tryz.prog 8 #[.pointer (some ⟨p, 0, none⟩), actV a] w (RPostS w p pr ev S (doR ev D nx a).ids (doR ev D nx a).err (doR ev D nx a).D (doR ev D nx a).nx) := by
  have h1 := h.up (below1 w (.cells #[.int .i64 a.kind, .int .i64 a.id, .int .i64 a.f, .int .i64 a.t, .int .i64 a.nm, .int .i64 a.n, .bool a.fr, .bool a.re, .int .i64 a.vk, .int .i64 a.vn] 31))
  obtain ⟨p0, p1⟩ := pick_pos a.kind 10 (by omega)
  obtain ⟨ki, id, f, t, nm, n, fr, re, vk, vn⟩ := a
  dsimp only at *
  have hcase : pickI ki 10 = 0 ∨ pickI ki 10 = 1 ∨ pickI ki 10 = 2 ∨ pickI ki 10 = 3 ∨ pickI ki 10 = 4 ∨ pickI ki 10 = 5 ∨ pickI ki 10 = 6 ∨ pickI ki 10 = 7 ∨ pickI ki 10 = 8 ∨ pickI ki 10 = 9 := by omega
  clear p0 p1 h
  rcases hcase with hk | hk | hk | hk | hk | hk | hk | hk | hk | hk
  · have e : doR ev D nx ⟨ki, id, f, t, nm, n, fr, re, vk, vn⟩ = ⟨addD D nx f t fr re, addN D nx f t, [addR D nx f t], addE D f t⟩ := by simp [doR, hk]
    rw [e]
    have HC := Lib.hid (r_add h1 hw f t fr re hn)
    clear e h1 hw
    go_enter Tryz.func8, Tryz.ntmps8
    go_wp2_with fail
    refine (pick_any ki 10 _ (by omega) (by omega)).mono ?_
    rintro e w' ⟨rfl, rfl⟩
    rw [hk]
    go_wp2_with fail
    refine HC.out.mono ?_
    rintro e w2 ⟨rfl, S', h2, h3, h4⟩
    have hb := below1 w (.cells #[.int .i64 ki, .int .i64 id, .int .i64 f, .int .i64 t, .int .i64 nm, .int .i64 n, .bool fr, .bool re, .int .i64 vk, .int .i64 vn] 31)
    have hz := hb.size
    have hz2 := h3.size
    have hal := MapKept.heap_alloc w2 (.cells #[.int .i64 (addR D nx f t)] 3)
    have H2 := Lib.hid h2
    have H3 := Lib.hid h3
    have H4 := Lib.hid h4
    clear h2 h3 h4
    go_wp2_with fail
    go_ret2
    refine ⟨_, rfl, ?_, _, (RSt.tight H2.out).up (below1 w2 _), ((Only.of_below hb).trans H3.out).alloc _, fun k hk => ?_⟩
    · refine ⟨by simp [cellsL], .inr ⟨w2.heap.size, 1, #[.int .i64 (addR D nx f t)], rfl, by omega, hal.1, by simp, by simp [maxLen], by simp, by simp [cellsL]⟩⟩
    · rcases H4.out k hk.1 with h5 | h5
      · exact .inl h5
      · refine .inr ⟨by omega, fun e => ?_⟩
        have h6 : w2.heap.size = k := Option.some.inj e
        have := hk.2
        omega
  · have e : doR ev D nx ⟨ki, id, f, t, nm, n, fr, re, vk, vn⟩ = ⟨addD D nx f t fr re, addN D nx f t, [addR D nx f t], addE D f t⟩ := by simp [doR, hk]
    rw [e]
    have HC := Lib.hid (r_add h1 hw f t fr re hn)
    clear e h1 hw
    go_enter Tryz.func8, Tryz.ntmps8
    go_wp2_with fail
    refine (pick_any ki 10 _ (by omega) (by omega)).mono ?_
    rintro e w' ⟨rfl, rfl⟩
    rw [hk]
    go_wp2_with fail
    refine HC.out.mono ?_
    rintro e w2 ⟨rfl, S', h2, h3, h4⟩
    have hb := below1 w (.cells #[.int .i64 ki, .int .i64 id, .int .i64 f, .int .i64 t, .int .i64 nm, .int .i64 n, .bool fr, .bool re, .int .i64 vk, .int .i64 vn] 31)
    have hz := hb.size
    have hz2 := h3.size
    have hal := MapKept.heap_alloc w2 (.cells #[.int .i64 (addR D nx f t)] 3)
    have H2 := Lib.hid h2
    have H3 := Lib.hid h3
    have H4 := Lib.hid h4
    clear h2 h3 h4
    go_wp2_with fail
    go_ret2
    refine ⟨_, rfl, ?_, _, (RSt.tight H2.out).up (below1 w2 _), ((Only.of_below hb).trans H3.out).alloc _, fun k hk => ?_⟩
    · refine ⟨by simp [cellsL], .inr ⟨w2.heap.size, 1, #[.int .i64 (addR D nx f t)], rfl, by omega, hal.1, by simp, by simp [maxLen], by simp, by simp [cellsL]⟩⟩
    · rcases H4.out k hk.1 with h5 | h5
      · exact .inl h5
      · refine .inr ⟨by omega, fun e => ?_⟩
        have h6 : w2.heap.size = k := Option.some.inj e
        have := hk.2
        omega
  · have e : doR ev D nx ⟨ki, id, f, t, nm, n, fr, re, vk, vn⟩ = ⟨dropD D id, nx, [], dropE D id⟩ := by simp [doR, hk]
    rw [e]
    have HC := Lib.hid (r_drop h1 hw id)
    clear e h1 hw
    go_enter Tryz.func8, Tryz.ntmps8
    go_wp2_with fail
    refine (pick_any ki 10 _ (by omega) (by omega)).mono ?_
    rintro e w' ⟨rfl, rfl⟩
    rw [hk]
    go_wp2_with fail
    refine HC.out.mono ?_
    rintro e w2 hp
    obtain ⟨rfl, hq⟩ := RPost.slice hp
    have HQ := Lib.hid hq.after
    clear hp hq
    go_wp2_with fail
    go_ret2
    exact HQ.out
  · have e : doR ev D nx ⟨ki, id, f, t, nm, n, fr, re, vk, vn⟩ = ⟨moveD D id f t, nx, [], moveE D id f t⟩ := by simp [doR, hk]
    rw [e]
    have HC := Lib.hid (r_move h1 hw id f t)
    clear e h1 hw
    go_enter Tryz.func8, Tryz.ntmps8
    go_wp2_with fail
    refine (pick_any ki 10 _ (by omega) (by omega)).mono ?_
    rintro e w' ⟨rfl, rfl⟩
    rw [hk]
    go_wp2_with fail
    refine HC.out.mono ?_
    rintro e w2 hp
    obtain ⟨rfl, hq⟩ := RPost.slice hp
    have HQ := Lib.hid hq.after
    clear hp hq
    go_wp2_with fail
    go_ret2
    exact HQ.out
  · have e : doR ev D nx ⟨ki, id, f, t, nm, n, fr, re, vk, vn⟩ = ⟨putD D id nm vk vn, nx, [], putE D id nm⟩ := by simp [doR, hk]
    rw [e]
    have HC := Lib.hid (r_put h1 hw id nm vk vn)
    clear e h1 hw
    go_enter Tryz.func8, Tryz.ntmps8
    go_wp2_with fail
    refine (pick_any ki 10 _ (by omega) (by omega)).mono ?_
    rintro e w' ⟨rfl, rfl⟩
    rw [hk]
    go_wp2_with fail
    refine HC.out.mono ?_
    rintro e w2 hp
    obtain ⟨rfl, hq⟩ := RPost.slice hp
    have HQ := Lib.hid hq.after
    clear hp hq
    go_wp2_with fail
    go_ret2
    exact HQ.out
  · have e : doR ev D nx ⟨ki, id, f, t, nm, n, fr, re, vk, vn⟩ = ⟨putD D id nm vk vn, nx, [], putE D id nm⟩ := by simp [doR, hk]
    rw [e]
    have HC := Lib.hid (r_put h1 hw id nm vk vn)
    clear e h1 hw
    go_enter Tryz.func8, Tryz.ntmps8
    go_wp2_with fail
    refine (pick_any ki 10 _ (by omega) (by omega)).mono ?_
    rintro e w' ⟨rfl, rfl⟩
    rw [hk]
    go_wp2_with fail
    refine HC.out.mono ?_
    rintro e w2 hp
    obtain ⟨rfl, hq⟩ := RPost.slice hp
    have HQ := Lib.hid hq.after
    clear hp hq
    go_wp2_with fail
    go_ret2
    exact HQ.out
  · have e : doR ev D nx ⟨ki, id, f, t, nm, n, fr, re, vk, vn⟩ = ⟨takeD D id nm, nx, [], takeE D id nm⟩ := by simp [doR, hk]
    rw [e]
    have HC := Lib.hid (r_take h1 hw id nm)
    clear e h1 hw
    go_enter Tryz.func8, Tryz.ntmps8
    go_wp2_with fail
    refine (pick_any ki 10 _ (by omega) (by omega)).mono ?_
    rintro e w' ⟨rfl, rfl⟩
    rw [hk]
    go_wp2_with fail
    refine HC.out.mono ?_
    rintro e w2 hp
    obtain ⟨rfl, hq⟩ := RPost.slice hp
    have HQ := Lib.hid hq.after
    clear hp hq
    go_wp2_with fail
    go_ret2
    exact HQ.out
  · have e : doR ev D nx ⟨ki, id, f, t, nm, n, fr, re, vk, vn⟩ = ⟨insertedD D f n, nx, [], insE D f n⟩ := by simp [doR, hk]
    rw [e]
    have HC := Lib.hid (r_ins h1 hw f n)
    clear e h1 hw
    go_enter Tryz.func8, Tryz.ntmps8
    go_wp2_with fail
    refine (pick_any ki 10 _ (by omega) (by omega)).mono ?_
    rintro e w' ⟨rfl, rfl⟩
    rw [hk]
    go_wp2_with fail
    refine HC.out.mono ?_
    rintro e w2 hp
    obtain ⟨rfl, hq⟩ := RPost.slice hp
    have HQ := Lib.hid hq.after
    clear hp hq
    go_wp2_with fail
    go_ret2
    exact HQ.out
  · have e : doR ev D nx ⟨ki, id, f, t, nm, n, fr, re, vk, vn⟩ = ⟨delD ev f t D, nx, delI ev f t D, delE f t⟩ := by simp [doR, hk]
    rw [e]
    have HC := Lib.hid (r_del h1 hw f t)
    clear e h1 hw
    go_enter Tryz.func8, Tryz.ntmps8
    go_wp2_with fail
    refine (pick_any ki 10 _ (by omega) (by omega)).mono ?_
    rintro e w' ⟨rfl, rfl⟩
    rw [hk]
    go_wp2_with fail
    refine HC.out.mono ?_
    rintro e w2 hp
    have HQ := Lib.hid hp.after
    obtain ⟨gv, rfl, ho, _⟩ := hp
    obtain ⟨Ag, cg, rfl, _, _, _⟩ := ho.shape eltI
    clear ho
    go_wp2_with fail
    go_ret2
    exact HQ.out
  · have e : doR ev D nx ⟨ki, id, f, t, nm, n, fr, re, vk, vn⟩ = ⟨delD ev f t D, nx, delI ev f t D, delE f t⟩ := by simp [doR, hk]
    rw [e]
    have HC := Lib.hid (r_del h1 hw f t)
    clear e h1 hw
    go_enter Tryz.func8, Tryz.ntmps8
    go_wp2_with fail
    refine (pick_any ki 10 _ (by omega) (by omega)).mono ?_
    rintro e w' ⟨rfl, rfl⟩
    rw [hk]
    go_wp2_with fail
    refine HC.out.mono ?_
    rintro e w2 hp
    have HQ := Lib.hid hp.after
    obtain ⟨gv, rfl, ho, _⟩ := hp
    obtain ⟨Ag, cg, rfl, _, _, _⟩ := ho.shape eltI
    clear ho
    go_wp2_with fail
    go_ret2
    exact HQ.out
end
end Go.Proofs.YthjkdeocdhdkaaaGreat
