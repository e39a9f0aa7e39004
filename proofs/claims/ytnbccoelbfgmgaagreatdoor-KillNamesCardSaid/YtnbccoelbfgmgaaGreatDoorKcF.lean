/- kill.rows: the rows of a rectangle. -/
import Derived.Test.YtnbccoelbfgmgaaGreatDoorZ04
namespace Go.Proofs.YtnbccoelbfgmgaaGreatDoor
open Go.RowKit Go.Lib
set_option linter.unusedVariables false
set_option linter.unusedSimpArgs false
section
variable {w : World} {b pt lo hi tab : Nat} {cs : List Nat}
set_option maxRecDepth 100000 in
set_option maxHeartbeats 40000000 in
theorem rows_ok (h : BufR w b cs pt lo hi) (x y : Nat) (ht1 : 1 ≤ tab) (ht2 : tab ≤ 64) (hx1 : lo ≤ x) (hx2 : x ≤ hi) (hy1 : lo ≤ y) (hy2 : y ≤ hi)
    (hC : ∀ b i, i ≤ hi → colN widN cs tab b i ≤ 1000000000) (left right : Nat) (hl : left = min (colN widN cs tab (lineB cs lo x) x) (colN widN cs tab (lineB cs lo y) y)) (hr : right = max (colN widN cs tab (lineB cs lo x) x) (colN widN cs tab (lineB cs lo y) y))
    (p : Nat → Nat) (M : Nat) (hM : M ≤ 1000000) (hp0 : p 0 = lineB cs lo (min x y)) (hpM : p M = lineB cs lo (max x y)) (hpn : ∀ j, j < M → p j ≠ p M) (hps : ∀ j, j < M → (linesF cs lo hi 1 (p j)).1 = p (j + 1)) (hpl : ∀ j, j ≤ M → lo ≤ p j ∧ p j ≤ hi) :
    Calls Tryz.prog 42 #[.pointer (some ⟨b, 0, none⟩), .int .i64 x, .int .i64 y, .int .i64 tab] w (RowsP w ((List.range (M + 1)).map fun j => rowAt cs lo hi tab left right (p j))) := by
  have HH := Lib.hid h
  have K1 := fun (w' : World) (hb : Below w.heap.size w w') => column_ok (h.up hb) x tab ht1 ht2 hx1 hx2
  have K2 := fun (w' : World) (hb : Below w.heap.size w w') => column_ok (h.up hb) y tab ht1 ht2 hy1 hy2
  have B1 := fun (w' : World) (hb : Below w.heap.size w w') => begin_ok (h.up hb) (min x y) (by omega) (by omega)
  have B2 := fun (w' : World) (hb : Below w.heap.size w w') => begin_ok (h.up hb) (max x y) (by omega) (by omega)
  have S1 := fun (j : Nat) (hj : j ≤ M) (w' : World) (hb : Below w.heap.size w w') => seek_ok (h.up hb) (p j) tab left ht1 ht2 (hpl j hj).1 (hpl j hj).2
  have S2 := fun (j : Nat) (hj : j ≤ M) (w' : World) (hb : Below w.heap.size w w') => seek_ok (h.up hb) (p j) tab right ht1 ht2 (hpl j hj).1 (hpl j hj).2
  rw [← hp0] at B1
  rw [← hpM] at B2
  obtain ⟨cx, hcx⟩ : ∃ c, c = colN widN cs tab (lineB cs lo x) x := ⟨_, rfl⟩
  obtain ⟨cy, hcy⟩ : ∃ c, c = colN widN cs tab (lineB cs lo y) y := ⟨_, rfl⟩
  have hcx9 : cx ≤ 1000000000 := hcx ▸ hC _ _ hx2
  have hcy9 : cy ≤ 1000000000 := hcy ▸ hC _ _ hy2
  rw [← hcx] at K1 hl hr
  rw [← hcy] at K2 hl hr
  have m1 : min (cx : Int) (cy : Int) = (left : Int) := by omega
  have m2 : max (cx : Int) (cy : Int) = (right : Int) := by omega
  have m3 : min (x : Int) (y : Int) = ((min x y : Nat) : Int) := by omega
  have m4 : max (x : Int) (y : Int) = ((max x y : Nat) : Int) := by omega
  have LR := Lib.hid (show left ≤ right ∧ right ≤ 1000000000 from ⟨by omega, by omega⟩)
  have HK1 := Lib.hid K1
  have HK2 := Lib.hid K2
  have HB1 := Lib.hid B1
  have HB2 := Lib.hid B2
  have HS1 := Lib.hid S1
  have HS2 := Lib.hid S2
  have HCC := Lib.hid hC
  have HPS := Lib.hid (⟨hpn, hps, hpl⟩ : _ ∧ _ ∧ _)
  clear h K1 K2 B1 B2 S1 S2 hl hr hcx hcy hC hpn hps hpl hp0 hpM
  have hxy : (x < y ∧ min x y = x ∧ max x y = y) ∨ (¬ x < y ∧ ¬ y < x ∧ min x y = x ∧ max x y = x ∧ y = x) ∨ (y < x ∧ min x y = y ∧ max x y = x) := by omega
  have hcc : (cx < cy ∧ left = cx ∧ right = cy) ∨ (¬ cx < cy ∧ ¬ cy < cx ∧ left = cx ∧ right = cx ∧ cy = cx) ∨ (cy < cx ∧ left = cy ∧ right = cx) := by omega
  clear m1 m2 m3 m4 hcx9 hcy9
  go_enter Tryz.func42, Tryz.ntmps42
  go_wp2_with fail
  refine (HK1.out w (Below.refl _ _)).mono ?_
  rintro e w1 ⟨rfl, hb1⟩
  have D1 := Lib.hid hb1
  clear hb1
  go_wp2_with fail
  refine (HK2.out w1 D1.out).mono ?_
  rintro e w2 ⟨rfl, hb2⟩
  have D2 := Lib.hid (up2 D1.out hb2)
  clear hb2
  have hcc2 : (left = cx ∧ right = cx ∧ cy = cx) ∨ (cx < cy ∧ left = cx ∧ right = cy) ∨ (cy < cx ∧ left = cy ∧ right = cx) := by omega
  clear hcc
  rcases hcc2 with ⟨h1, h2, h3⟩ | hcc3
  · have h4 : left = right := by omega
    subst h4
    subst h1
    have h5 : left = cy := by omega
    subst h5
    clear h2 h3
    all_goals rcases hxy with ⟨q1, e1, e2⟩ | ⟨q1, q2, e1, e2, e3⟩ | ⟨q1, e1, e2⟩
    all_goals first
      | (have e4 : x = y := by omega
         subst e4
         rw [e1] at HB1
         rw [e2] at HB2
         clear e1 e2 q1)
      | (have r1 : (x < y) = True := eq_true (by omega)
         have r2 : (y < x) = False := eq_false (by omega)
         rw [e1] at HB1
         rw [e2] at HB2
         clear e1 e2 q1)
      | (have r1 : (x < y) = False := eq_false (by omega)
         have r2 : (y < x) = True := eq_true (by omega)
         rw [e1] at HB1
         rw [e2] at HB2
         clear e1 e2 q1)
    all_goals
      go_wp2_with fail
      refine (HB1.out w2 D2.out).mono ?_
      rintro e w3 ⟨rfl, hb3⟩
      have D3 := Lib.hid (up2 D2.out hb3)
      clear hb3
      go_wp2_with fail
      refine (HB2.out w3 D3.out).mono ?_
      rintro e w4 ⟨rfl, hb4⟩
      have D4 := Lib.hid (up2 D3.out hb4)
      clear hb4
      go_wp2_with fail
      have hw4 := Lib.hid (show w.heap.size ≤ w4.heap.size from D4.out.size)
      obtain ⟨HPN, HPSS, HPL⟩ := HPS.out
      have HPN := Lib.hid HPN
      have HPSS := Lib.hid HPSS
      have HPL := Lib.hid HPL
      clear HPS
      obtain ⟨p0, hp0⟩ : ∃ q, q = p 0 := ⟨_, rfl⟩
      obtain ⟨pM, hpM⟩ : ∃ q, q = p M := ⟨_, rfl⟩
      rw [← hp0, ← hpM]
      have HP0 := Lib.hid hp0
      have HPM := Lib.hid hpM
      clear hp0 hpM
      go_loopw [13, 17] (fun va vb wr => ∃ j : Nat, j ≤ M ∧ va = .int .i64 (p j) ∧ ROwn encRow 76 3 w.heap.size wr vb ((List.range j).map fun j => rowAt cs lo hi tab left left (p j)) ∧ Below w.heap.size w wr) (fun _ vb _ => M + 1 - lenV vb)
      case atStart => exact ⟨0, by omega, by rw [HP0.out], ROwn.nil _ _, D4.out⟩
      case round =>
        obtain ⟨j, hj, rfl, hown, hbel⟩ := hrel
        have HW := Lib.hid hown
        have HBE := Lib.hid hbel
        clear hown hbel
        have hs1 := fun w' hb => HS1.out j hj w' hb
        have hs2 := fun w' hb => HS2.out j hj w' hb
        obtain ⟨i1, hi1⟩ : ∃ q, q = seekN widN cs tab (lineB cs lo (p j)) (lineE cs hi (p j)) left := ⟨_, rfl⟩
        obtain ⟨n1, hn1⟩ : ∃ q, q = colN widN cs tab (lineB cs lo (p j)) i1 := ⟨_, rfl⟩
        have hrow : rowAt cs lo hi tab left left (p j) = ((i1 : Int), (i1 : Int), 0) := by
          unfold rowAt; rw [← hi1, ← hn1]; congr 2; split <;> simp
        rw [← hi1, ← hn1] at hs1 hs2
        have HS1 := Lib.hid hs1
        have HS2 := Lib.hid hs2
        have HROW := Lib.hid hrow
        clear hi1 hn1 hrow hs1 hs2
        obtain ⟨q, hq⟩ : ∃ q, q = p j := ⟨_, rfl⟩
        rw [← hq] at HS1 HS2 ⊢
        have HQ := Lib.hid hq
        clear hq
        by_cases hl1 : left ≤ n1
        · have d1 : decide ((left : Int) ≤ (n1 : Int)) = true := decide_eq_true (by omega)
          have d2 : (left ≤ n1) = True := eq_true hl1
          clear hl1
          go_wp2_with fail
          refine (HS1.out _ HBE.out).mono ?_
          rintro e w5 ⟨rfl, hb5⟩
          have D5 := Lib.hid (up2 HBE.out hb5)
          have R5 := Lib.hid hb5
          clear hb5
          go_wp2_with fail
          refine (HS2.out _ D5.out).mono ?_
          rintro e w6 ⟨rfl, hb6⟩
          have D6 := Lib.hid (up2 D5.out hb6)
          have R6 := Lib.hid (up2 R5.out hb6)
          clear hb6
          obtain ⟨v7, w7, happ, hown7, hb7, _⟩ := append_elem eltRow (w := w6) (HW.out.up R6.out) D6.out.size ((i1 : Int), (i1 : Int), 0) (by simp; omega) (by omega)
          have HP := Lib.hid happ
          have HO7 := Lib.hid hown7
          have D7 := Lib.hid (D6.out.trans hb7)
          clear happ hown7 hb7
          have hlen0 : lenV u17 = j := by obtain ⟨A, cp, e, _, _, _⟩ := HW.out.shape eltRow; rw [e]; simp [lenV]
          have hlen7 : lenV v7 = j + 1 := by obtain ⟨A, cp, e, _, _, _⟩ := HO7.out.shape eltRow; rw [e]; simp [lenV]
          have hL7 : (List.range j).map (fun j => rowAt cs lo hi tab left left (p j)) ++ [((i1 : Int), (i1 : Int), 0)] = (List.range (j + 1)).map (fun j => rowAt cs lo hi tab left left (p j)) := by
            rw [List.range_succ, List.map_append, List.map_singleton, HROW.out]
          rw [hL7] at HO7
          have HLEN := Lib.hid (⟨hlen0, hlen7⟩ : _ ∧ _)
          clear hlen0 hlen7 hL7
          by_cases hjM : j = M
          · have e1 : ((q : Int) == (pM : Int)) = true := by rw [HQ.out, HPM.out, hjM]; simp
            have e2 : (q = pM) = True := eq_true (by rw [HQ.out, HPM.out, hjM])
            subst hjM
            go_wp2_with (at_builtin; refine wpList_app_run (v := u17) (u := .slice (some ⟨w6.heap.size, 0, none⟩) 1 1) rfl _ _ _ rfl rfl rfl HP.out ?_)
            go_ret2
            exact ⟨v7, rfl, HO7.out, D7.out⟩
          · have e1 : ((q : Int) == (pM : Int)) = false := by
              have := HPN.out j (by omega)
              rw [← HQ.out, ← HPM.out] at this
              simp; omega
            have e2 : (q = pM) = False := eq_false (by have := HPN.out j (by omega); rw [← HQ.out, ← HPM.out] at this; exact this)
            go_wp2_with (at_builtin; refine wpList_app_run (v := u17) (u := .slice (some ⟨w6.heap.size, 0, none⟩) 1 1) rfl _ _ _ rfl rfl rfl HP.out ?_)
            have hln := lines_fwd (HH.out.up D7.out) (p j) 1 (by omega) (HPL.out j hj).1 (HPL.out j hj).2
            rw [HPSS.out j (by omega), ← HQ.out] at hln
            refine hln.mono ?_
            rintro e w8 ⟨rfl, hb8⟩
            have D8 := Lib.hid (up2 D7.out hb8)
            have hO8 := HO7.out.up hb8
            have HO8 := Lib.hid hO8
            clear hb8 hO8 hln
            generalize hgl : (linesF cs lo hi 1 q).2 = rest2
            go_wp2_with fail
            go_roundw
            case rel => exact ⟨j + 1, by omega, rfl, HO8.out, D8.out⟩
            case measure => rw [HLEN.out.1, HLEN.out.2]; omega
        · have d1 : decide ((left : Int) ≤ (n1 : Int)) = false := decide_eq_false (by omega)
          have d2 : (left ≤ n1) = False := eq_false hl1
          clear hl1
          go_wp2_with fail
          refine (HS1.out _ HBE.out).mono ?_
          rintro e w5 ⟨rfl, hb5⟩
          have D5 := Lib.hid (up2 HBE.out hb5)
          have R5 := Lib.hid hb5
          clear hb5
          go_wp2_with fail
          refine (HS2.out _ D5.out).mono ?_
          rintro e w6 ⟨rfl, hb6⟩
          have D6 := Lib.hid (up2 D5.out hb6)
          have R6 := Lib.hid (up2 R5.out hb6)
          clear hb6
          obtain ⟨v7, w7, happ, hown7, hb7, _⟩ := append_elem eltRow (w := w6) (HW.out.up R6.out) D6.out.size ((i1 : Int), (i1 : Int), 0) (by simp; omega) (by omega)
          have HP := Lib.hid happ
          have HO7 := Lib.hid hown7
          have D7 := Lib.hid (D6.out.trans hb7)
          clear happ hown7 hb7
          have hlen0 : lenV u17 = j := by obtain ⟨A, cp, e, _, _, _⟩ := HW.out.shape eltRow; rw [e]; simp [lenV]
          have hlen7 : lenV v7 = j + 1 := by obtain ⟨A, cp, e, _, _, _⟩ := HO7.out.shape eltRow; rw [e]; simp [lenV]
          have hL7 : (List.range j).map (fun j => rowAt cs lo hi tab left left (p j)) ++ [((i1 : Int), (i1 : Int), 0)] = (List.range (j + 1)).map (fun j => rowAt cs lo hi tab left left (p j)) := by
            rw [List.range_succ, List.map_append, List.map_singleton, HROW.out]
          rw [hL7] at HO7
          have HLEN := Lib.hid (⟨hlen0, hlen7⟩ : _ ∧ _)
          clear hlen0 hlen7 hL7
          by_cases hjM : j = M
          · have e1 : ((q : Int) == (pM : Int)) = true := by rw [HQ.out, HPM.out, hjM]; simp
            have e2 : (q = pM) = True := eq_true (by rw [HQ.out, HPM.out, hjM])
            subst hjM
            go_wp2_with (at_builtin; refine wpList_app_run (v := u17) (u := .slice (some ⟨w6.heap.size, 0, none⟩) 1 1) rfl _ _ _ rfl rfl rfl HP.out ?_)
            go_ret2
            exact ⟨v7, rfl, HO7.out, D7.out⟩
          · have e1 : ((q : Int) == (pM : Int)) = false := by
              have := HPN.out j (by omega)
              rw [← HQ.out, ← HPM.out] at this
              simp; omega
            have e2 : (q = pM) = False := eq_false (by have := HPN.out j (by omega); rw [← HQ.out, ← HPM.out] at this; exact this)
            go_wp2_with (at_builtin; refine wpList_app_run (v := u17) (u := .slice (some ⟨w6.heap.size, 0, none⟩) 1 1) rfl _ _ _ rfl rfl rfl HP.out ?_)
            have hln := lines_fwd (HH.out.up D7.out) (p j) 1 (by omega) (HPL.out j hj).1 (HPL.out j hj).2
            rw [HPSS.out j (by omega), ← HQ.out] at hln
            refine hln.mono ?_
            rintro e w8 ⟨rfl, hb8⟩
            have D8 := Lib.hid (up2 D7.out hb8)
            have hO8 := HO7.out.up hb8
            have HO8 := Lib.hid hO8
            clear hb8 hO8 hln
            generalize hgl : (linesF cs lo hi 1 q).2 = rest2
            go_wp2_with fail
            go_roundw
            case rel => exact ⟨j + 1, by omega, rfl, HO8.out, D8.out⟩
            case measure => rw [HLEN.out.1, HLEN.out.2]; omega
  rcases hcc3 with ⟨q0, rfl, rfl⟩ | ⟨q0, rfl, rfl⟩
  all_goals
    have r3 : (left < right) = True := eq_true (by omega)
    have r4 : (right < left) = False := eq_false (by omega)
    clear q0
  all_goals rcases hxy with ⟨q1, e1, e2⟩ | ⟨q1, q2, e1, e2, e3⟩ | ⟨q1, e1, e2⟩
  all_goals first
    | (have e4 : x = y := by omega
       subst e4
       rw [e1] at HB1
       rw [e2] at HB2
       clear e1 e2 q1)
    | (have r1 : (x < y) = True := eq_true (by omega)
       have r2 : (y < x) = False := eq_false (by omega)
       rw [e1] at HB1
       rw [e2] at HB2
       clear e1 e2 q1)
    | (have r1 : (x < y) = False := eq_false (by omega)
       have r2 : (y < x) = True := eq_true (by omega)
       rw [e1] at HB1
       rw [e2] at HB2
       clear e1 e2 q1)
  all_goals
    go_wp2_with fail
    refine (HB1.out w2 D2.out).mono ?_
    rintro e w3 ⟨rfl, hb3⟩
    have D3 := Lib.hid (up2 D2.out hb3)
    clear hb3
    go_wp2_with fail
    refine (HB2.out w3 D3.out).mono ?_
    rintro e w4 ⟨rfl, hb4⟩
    have D4 := Lib.hid (up2 D3.out hb4)
    clear hb4
    go_wp2_with fail
    have hw4 := Lib.hid (show w.heap.size ≤ w4.heap.size from D4.out.size)
    obtain ⟨HPN, HPSS, HPL⟩ := HPS.out
    have HPN := Lib.hid HPN
    have HPSS := Lib.hid HPSS
    have HPL := Lib.hid HPL
    clear HPS
    obtain ⟨p0, hp0⟩ : ∃ q, q = p 0 := ⟨_, rfl⟩
    obtain ⟨pM, hpM⟩ : ∃ q, q = p M := ⟨_, rfl⟩
    rw [← hp0, ← hpM]
    have HP0 := Lib.hid hp0
    have HPM := Lib.hid hpM
    clear hp0 hpM
    go_loopw [13, 17] (fun va vb wr => ∃ j : Nat, j ≤ M ∧ va = .int .i64 (p j) ∧ ROwn encRow 76 3 w.heap.size wr vb ((List.range j).map fun j => rowAt cs lo hi tab left right (p j)) ∧ Below w.heap.size w wr) (fun _ vb _ => M + 1 - lenV vb)
    case atStart => exact ⟨0, by omega, by rw [HP0.out], ROwn.nil _ _, D4.out⟩
    case round =>
      obtain ⟨j, hj, rfl, hown, hbel⟩ := hrel
      have HW := Lib.hid hown
      have HBE := Lib.hid hbel
      clear hown hbel
      have hs1 := fun w' hb => HS1.out j hj w' hb
      have hs2 := fun w' hb => HS2.out j hj w' hb
      obtain ⟨i1, hi1⟩ : ∃ q, q = seekN widN cs tab (lineB cs lo (p j)) (lineE cs hi (p j)) left := ⟨_, rfl⟩
      obtain ⟨i2, hi2⟩ : ∃ q, q = seekN widN cs tab (lineB cs lo (p j)) (lineE cs hi (p j)) right := ⟨_, rfl⟩
      obtain ⟨n1, hn1⟩ : ∃ q, q = colN widN cs tab (lineB cs lo (p j)) i1 := ⟨_, rfl⟩
      obtain ⟨n2, hn2⟩ : ∃ q, q = colN widN cs tab (lineB cs lo (p j)) i2 := ⟨_, rfl⟩
      have hrow : rowAt cs lo hi tab left right (p j) = ((i1 : Int), (i2 : Int), if left ≤ n1 then max 0 ((right : Int) - left - ((n2 : Int) - n1)) else (right : Int) - left) := by
        unfold rowAt; rw [hn1, hn2, hi1, hi2]
      rw [← hi1, ← hn1] at hs1
      rw [← hi2, ← hn2] at hs2
      have hb1 : n1 ≤ 1000000000 := hn1 ▸ HCC.out _ _ (hi1 ▸ seek_hi (HPL.out j hj).1 (HPL.out j hj).2)
      have hb2 : n2 ≤ 1000000000 := hn2 ▸ HCC.out _ _ (hi2 ▸ seek_hi (HPL.out j hj).1 (HPL.out j hj).2)
      have hlr := LR.out
      have s1 : IntKind.i64.wrap ((right : Int) - left) = (right : Int) - left := IntWalk.i64_in _ (by omega)
      have s2 : IntKind.i64.wrap ((n2 : Int) - n1) = (n2 : Int) - n1 := IntWalk.i64_in _ (by omega)
      have s3 : IntKind.i64.wrap ((right : Int) - left - ((n2 : Int) - n1)) = (right : Int) - left - ((n2 : Int) - n1) := IntWalk.i64_in _ (by omega)
      have HS1 := Lib.hid hs1
      have HS2 := Lib.hid hs2
      have HROW := Lib.hid hrow
      clear hi1 hi2 hn1 hn2 hrow hs1 hs2 hlr hb1 hb2
      obtain ⟨q, hq⟩ : ∃ q, q = p j := ⟨_, rfl⟩
      rw [← hq] at HS1 HS2 ⊢
      have HQ := Lib.hid hq
      clear hq
      by_cases hl1 : left ≤ n1
      · have d1 : decide ((left : Int) ≤ (n1 : Int)) = true := decide_eq_true (by omega)
        have d2 : (left ≤ n1) = True := eq_true hl1
        rw [if_pos hl1] at HROW
        clear hl1
        obtain ⟨z, hz⟩ : ∃ z : Int, z = (right : Int) - left - ((n2 : Int) - n1) := ⟨_, rfl⟩
        rw [← hz] at HROW s3
        have hz2 := hz.symm
        clear hz
        by_cases h0 : 0 < z
        · have z1 : max (0 : Int) z = z := by omega
          have z2 : (0 < z) = True := eq_true h0
          have z3 : (z < 0) = False := eq_false (by omega)
          rw [z1] at HROW
          clear h0
          go_wp2_with fail
          refine (HS1.out _ HBE.out).mono ?_
          rintro e w5 ⟨rfl, hb5⟩
          have D5 := Lib.hid (up2 HBE.out hb5)
          have R5 := Lib.hid hb5
          clear hb5
          go_wp2_with fail
          refine (HS2.out _ D5.out).mono ?_
          rintro e w6 ⟨rfl, hb6⟩
          have D6 := Lib.hid (up2 D5.out hb6)
          have R6 := Lib.hid (up2 R5.out hb6)
          clear hb6
          obtain ⟨v7, w7, happ, hown7, hb7, _⟩ := append_elem eltRow (w := w6) (HW.out.up R6.out) D6.out.size ((i1 : Int), (i2 : Int), z) (by simp; omega) (by omega)
          have HP := Lib.hid happ
          have HO7 := Lib.hid hown7
          have D7 := Lib.hid (D6.out.trans hb7)
          clear happ hown7 hb7
          have hlen0 : lenV u17 = j := by obtain ⟨A, cp, e, _, _, _⟩ := HW.out.shape eltRow; rw [e]; simp [lenV]
          have hlen7 : lenV v7 = j + 1 := by obtain ⟨A, cp, e, _, _, _⟩ := HO7.out.shape eltRow; rw [e]; simp [lenV]
          have hL7 : (List.range j).map (fun j => rowAt cs lo hi tab left right (p j)) ++ [((i1 : Int), (i2 : Int), z)] = (List.range (j + 1)).map (fun j => rowAt cs lo hi tab left right (p j)) := by
            rw [List.range_succ, List.map_append, List.map_singleton, HROW.out]
          rw [hL7] at HO7
          have HLEN := Lib.hid (⟨hlen0, hlen7⟩ : _ ∧ _)
          clear hlen0 hlen7 hL7
          by_cases hjM : j = M
          · have e1 : ((q : Int) == (pM : Int)) = true := by rw [HQ.out, HPM.out, hjM]; simp
            have e2 : (q = pM) = True := eq_true (by rw [HQ.out, HPM.out, hjM])
            subst hjM
            go_wp2_with (at_builtin; refine wpList_app_run (v := u17) (u := .slice (some ⟨w6.heap.size, 0, none⟩) 1 1) rfl _ _ _ rfl rfl rfl HP.out ?_)
            go_ret2
            exact ⟨v7, rfl, HO7.out, D7.out⟩
          · have e1 : ((q : Int) == (pM : Int)) = false := by
              have := HPN.out j (by omega)
              rw [← HQ.out, ← HPM.out] at this
              simp; omega
            have e2 : (q = pM) = False := eq_false (by have := HPN.out j (by omega); rw [← HQ.out, ← HPM.out] at this; exact this)
            go_wp2_with (at_builtin; refine wpList_app_run (v := u17) (u := .slice (some ⟨w6.heap.size, 0, none⟩) 1 1) rfl _ _ _ rfl rfl rfl HP.out ?_)
            have hln := lines_fwd (HH.out.up D7.out) (p j) 1 (by omega) (HPL.out j hj).1 (HPL.out j hj).2
            rw [HPSS.out j (by omega), ← HQ.out] at hln
            refine hln.mono ?_
            rintro e w8 ⟨rfl, hb8⟩
            have D8 := Lib.hid (up2 D7.out hb8)
            have hO8 := HO7.out.up hb8
            have HO8 := Lib.hid hO8
            clear hb8 hO8 hln
            generalize hgl : (linesF cs lo hi 1 q).2 = rest2
            go_wp2_with fail
            go_roundw
            case rel => exact ⟨j + 1, by omega, rfl, HO8.out, D8.out⟩
            case measure => rw [HLEN.out.1, HLEN.out.2]; omega
        · have z1 : max (0 : Int) z = 0 := by omega
          have z2 : (0 < z) = False := eq_false h0
          rw [z1] at HROW
          clear h0
          go_wp2_with fail
          refine (HS1.out _ HBE.out).mono ?_
          rintro e w5 ⟨rfl, hb5⟩
          have D5 := Lib.hid (up2 HBE.out hb5)
          have R5 := Lib.hid hb5
          clear hb5
          go_wp2_with fail
          refine (HS2.out _ D5.out).mono ?_
          rintro e w6 ⟨rfl, hb6⟩
          have D6 := Lib.hid (up2 D5.out hb6)
          have R6 := Lib.hid (up2 R5.out hb6)
          clear hb6
          obtain ⟨v7, w7, happ, hown7, hb7, _⟩ := append_elem eltRow (w := w6) (HW.out.up R6.out) D6.out.size ((i1 : Int), (i2 : Int), 0) (by simp; omega) (by omega)
          have HP := Lib.hid happ
          have HO7 := Lib.hid hown7
          have D7 := Lib.hid (D6.out.trans hb7)
          clear happ hown7 hb7
          have hlen0 : lenV u17 = j := by obtain ⟨A, cp, e, _, _, _⟩ := HW.out.shape eltRow; rw [e]; simp [lenV]
          have hlen7 : lenV v7 = j + 1 := by obtain ⟨A, cp, e, _, _, _⟩ := HO7.out.shape eltRow; rw [e]; simp [lenV]
          have hL7 : (List.range j).map (fun j => rowAt cs lo hi tab left right (p j)) ++ [((i1 : Int), (i2 : Int), 0)] = (List.range (j + 1)).map (fun j => rowAt cs lo hi tab left right (p j)) := by
            rw [List.range_succ, List.map_append, List.map_singleton, HROW.out]
          rw [hL7] at HO7
          have HLEN := Lib.hid (⟨hlen0, hlen7⟩ : _ ∧ _)
          clear hlen0 hlen7 hL7
          by_cases hjM : j = M
          · have e1 : ((q : Int) == (pM : Int)) = true := by rw [HQ.out, HPM.out, hjM]; simp
            have e2 : (q = pM) = True := eq_true (by rw [HQ.out, HPM.out, hjM])
            subst hjM
            go_wp2_with (at_builtin; refine wpList_app_run (v := u17) (u := .slice (some ⟨w6.heap.size, 0, none⟩) 1 1) rfl _ _ _ rfl rfl rfl HP.out ?_)
            go_ret2
            exact ⟨v7, rfl, HO7.out, D7.out⟩
          · have e1 : ((q : Int) == (pM : Int)) = false := by
              have := HPN.out j (by omega)
              rw [← HQ.out, ← HPM.out] at this
              simp; omega
            have e2 : (q = pM) = False := eq_false (by have := HPN.out j (by omega); rw [← HQ.out, ← HPM.out] at this; exact this)
            go_wp2_with (at_builtin; refine wpList_app_run (v := u17) (u := .slice (some ⟨w6.heap.size, 0, none⟩) 1 1) rfl _ _ _ rfl rfl rfl HP.out ?_)
            have hln := lines_fwd (HH.out.up D7.out) (p j) 1 (by omega) (HPL.out j hj).1 (HPL.out j hj).2
            rw [HPSS.out j (by omega), ← HQ.out] at hln
            refine hln.mono ?_
            rintro e w8 ⟨rfl, hb8⟩
            have D8 := Lib.hid (up2 D7.out hb8)
            have hO8 := HO7.out.up hb8
            have HO8 := Lib.hid hO8
            clear hb8 hO8 hln
            generalize hgl : (linesF cs lo hi 1 q).2 = rest2
            go_wp2_with fail
            go_roundw
            case rel => exact ⟨j + 1, by omega, rfl, HO8.out, D8.out⟩
            case measure => rw [HLEN.out.1, HLEN.out.2]; omega
      · have d1 : decide ((left : Int) ≤ (n1 : Int)) = false := decide_eq_false (by omega)
        have d2 : (left ≤ n1) = False := eq_false hl1
        rw [if_neg hl1] at HROW
        clear hl1
        go_wp2_with fail
        refine (HS1.out _ HBE.out).mono ?_
        rintro e w5 ⟨rfl, hb5⟩
        have D5 := Lib.hid (up2 HBE.out hb5)
        have R5 := Lib.hid hb5
        clear hb5
        go_wp2_with fail
        refine (HS2.out _ D5.out).mono ?_
        rintro e w6 ⟨rfl, hb6⟩
        have D6 := Lib.hid (up2 D5.out hb6)
        have R6 := Lib.hid (up2 R5.out hb6)
        clear hb6
        obtain ⟨v7, w7, happ, hown7, hb7, _⟩ := append_elem eltRow (w := w6) (HW.out.up R6.out) D6.out.size ((i1 : Int), (i2 : Int), (right : Int) - left) (by simp; omega) (by omega)
        have HP := Lib.hid happ
        have HO7 := Lib.hid hown7
        have D7 := Lib.hid (D6.out.trans hb7)
        clear happ hown7 hb7
        have hlen0 : lenV u17 = j := by obtain ⟨A, cp, e, _, _, _⟩ := HW.out.shape eltRow; rw [e]; simp [lenV]
        have hlen7 : lenV v7 = j + 1 := by obtain ⟨A, cp, e, _, _, _⟩ := HO7.out.shape eltRow; rw [e]; simp [lenV]
        have hL7 : (List.range j).map (fun j => rowAt cs lo hi tab left right (p j)) ++ [((i1 : Int), (i2 : Int), (right : Int) - left)] = (List.range (j + 1)).map (fun j => rowAt cs lo hi tab left right (p j)) := by
          rw [List.range_succ, List.map_append, List.map_singleton, HROW.out]
        rw [hL7] at HO7
        have HLEN := Lib.hid (⟨hlen0, hlen7⟩ : _ ∧ _)
        clear hlen0 hlen7 hL7
        by_cases hjM : j = M
        · have e1 : ((q : Int) == (pM : Int)) = true := by rw [HQ.out, HPM.out, hjM]; simp
          have e2 : (q = pM) = True := eq_true (by rw [HQ.out, HPM.out, hjM])
          subst hjM
          go_wp2_with (at_builtin; refine wpList_app_run (v := u17) (u := .slice (some ⟨w6.heap.size, 0, none⟩) 1 1) rfl _ _ _ rfl rfl rfl HP.out ?_)
          go_ret2
          exact ⟨v7, rfl, HO7.out, D7.out⟩
        · have e1 : ((q : Int) == (pM : Int)) = false := by
            have := HPN.out j (by omega)
            rw [← HQ.out, ← HPM.out] at this
            simp; omega
          have e2 : (q = pM) = False := eq_false (by have := HPN.out j (by omega); rw [← HQ.out, ← HPM.out] at this; exact this)
          go_wp2_with (at_builtin; refine wpList_app_run (v := u17) (u := .slice (some ⟨w6.heap.size, 0, none⟩) 1 1) rfl _ _ _ rfl rfl rfl HP.out ?_)
          have hln := lines_fwd (HH.out.up D7.out) (p j) 1 (by omega) (HPL.out j hj).1 (HPL.out j hj).2
          rw [HPSS.out j (by omega), ← HQ.out] at hln
          refine hln.mono ?_
          rintro e w8 ⟨rfl, hb8⟩
          have D8 := Lib.hid (up2 D7.out hb8)
          have hO8 := HO7.out.up hb8
          have HO8 := Lib.hid hO8
          clear hb8 hO8 hln
          generalize hgl : (linesF cs lo hi 1 q).2 = rest2
          go_wp2_with fail
          go_roundw
          case rel => exact ⟨j + 1, by omega, rfl, HO8.out, D8.out⟩
          case measure => rw [HLEN.out.1, HLEN.out.2]; omega
end
end Go.Proofs.YtnbccoelbfgmgaaGreatDoor
