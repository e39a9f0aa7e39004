/- copyistlaw18.OversText returns true. -/
import Derived.Test.YthjkdeocdhdkaaaOvTb
import Derived.Deep.DeepCutAuto
namespace Go.Proofs.Ythjkdeocdhdkaaa
open Go.RowKit
set_option linter.unusedVariables false
set_option linter.unusedSimpArgs false
set_option maxRecDepth 100000 in
set_option maxHeartbeats 4000000 in
theorem text_some (size0 f0 t0 : Int) (fr re : Bool) (A : Option Addr) (cap : Nat) (l : List Act18) (w : World) (hl : l.length ≤ 40) (hA : RSl encA w A l) :
    Calls Try.prog 3 #[.int .i64 size0, .int .i64 f0, .int .i64 t0, .bool fr, .bool re, .slice A l.length cap] w fun e w' => e = .returned (.bool true) ∧ Below w.heap.size w w' := by
  have HA := Lib.hid hA
  clear hA
  have hl' : (l.length : Int) ≤ 40 := by omega
  obtain ⟨n, hn, hn1⟩ : ∃ n : Nat, pickI size0 200 = n ∧ n < 200 := by
    obtain ⟨p0, p1⟩ := pick_pos size0 200 (by omega)
    exact ⟨(pickI size0 200).toNat, by omega, by omega⟩
  obtain ⟨a, ha, ha1, ha2⟩ : ∃ a : Int, 1 + pickI f0 ((n : Int) + 1) = a ∧ 1 ≤ a ∧ a ≤ (n : Int) + 1 := by
    obtain ⟨p0, p1⟩ := pick_pos f0 ((n : Int) + 1) (by omega)
    exact ⟨_, rfl, by omega, by omega⟩
  obtain ⟨c, hc, hc1, hc2⟩ : ∃ c : Int, a + pickI t0 ((n : Int) + 2 - a) = c ∧ a ≤ c ∧ c ≤ (n : Int) + 1 := by
    obtain ⟨p0, p1⟩ := pick_pos t0 ((n : Int) + 2 - a) (by omega)
    exact ⟨_, rfl, by omega, by omega⟩
  have hw0 : IntKind.i64.wrap ((n : Int) + 1) = (n : Int) + 1 := IntWalk.i64_in _ (by omega)
  have hw1 : IntKind.i64.wrap ((n : Int) + 2) = (n : Int) + 2 := IntWalk.i64_in _ (by omega)
  have hw2 : IntKind.i64.wrap ((n : Int) + 2 - a) = (n : Int) + 2 - a := IntWalk.i64_in _ (by omega)
  go_enter Try.func3, Try.ntmps3
  go_wp2_with fail
  refine (lives_true w).mono ?_
  rintro e w1 ⟨rfl, hB1⟩
  go_wp2_with fail
  refine (pick_any size0 200 _ (by omega) (by omega)).mono ?_
  rintro e w' ⟨rfl, rfl⟩
  rw [hn]
  go_wp2_with fail
  refine (pick_any f0 _ _ (by omega) (by omega)).mono ?_
  rintro e w' ⟨rfl, rfl⟩
  have hw3 : IntKind.i64.wrap (1 + pickI f0 ((n : Int) + 1)) = a := by rw [ha]; exact IntWalk.i64_in _ (by omega)
  go_wp2_with fail
  refine (pick_any t0 _ _ (by omega) (by omega)).mono ?_
  rintro e w' ⟨rfl, rfl⟩
  have hw4 : IntKind.i64.wrap (a + pickI t0 ((n : Int) + 2 - a)) = c := by rw [hc]; exact IntWalk.i64_in _ (by omega)
  go_wp2_with fail
  refine (s_new' 1 2 w1).mono ?_
  rintro e w2 ⟨ob, rfl, s2, hob, hB2⟩
  have bw2 := up2 hB1 hB2
  have hz1 := hB1.size
  clear hB1 hB2
  have hr : rightI a c = true := (rightI_iff a c).2 (by omega)
  obtain ⟨e1, e2, e3, e4⟩ := one_add (fr := fr) (re := re) hr
  have HADD := Lib.hid (s_add s2 WfD.nil a c fr re (by omega))
  rw [e1, e2, e3, e4] at HADD
  clear e1 e2 e3 e4 hr s2
  go_wp2_with fail
  refine HADD.out.mono ?_
  rintro e w3 ⟨rfl, S3, s3, on3, hS3⟩
  have hz2 := bw2.size
  have bw3 : Below w.heap.size w w3 := bw2.trans (on3.below hz2 (fun k hk => by subst hk; omega))
  have hz3 := bw3.size
  have hS3' : ∀ k, S3 k → w.heap.size ≤ k := fun k hk => by
    rcases hS3 k hk with h | h
    · subst h; omega
    · omega
  clear HADD on3 bw2 hS3
  obtain ⟨w4, hmk, hown4, hb4⟩ := mk_ints (w := w3) w.heap.size n (by omega) hz3
  have hst4 : ∃ S, OSt w4 ob 1 2 (oneD a c fr re) 1 S ∧ ∀ k, S k → w.heap.size ≤ k ∧ (Value.slice (some ⟨w3.heap.size, 0, none⟩) n n).ownBlock ≠ some k := ⟨_, s3.tight.up hb4, fun k hk => ⟨hS3' k hk.1, fun e => by have h1 : w3.heap.size = k := Option.some.inj e; have := hk.2; omega⟩⟩
  have bw4 := up2 bw3 hb4
  have HW4 := Lib.hid hown4
  have HS4 := Lib.hid hst4
  clear hown4 hst4 hb4 s3 hS3' bw3
  go_wp2_with fail
  go_loopw [17] (fun vi wr => ∃ j : Nat, a + j ≤ c ∧ vi = .int .i64 (a + j) ∧ ROwn encI 3 1 w.heap.size wr (.slice (some ⟨w3.heap.size, 0, none⟩) n n) (txt0 n a (a + j)) ∧ Only (· = w3.heap.size) w4 wr) (fun vi _ => (c - intOf vi).toNat)
  case atStart => exact ⟨0, by omega, by simp, by rw [show a + ((0 : Nat) : Int) = a by omega, txt0_zero]; exact HW4.out, Only.refl _ _⟩
  case round =>
    obtain ⟨j, hj, rfl, hown, hon⟩ := hrel
    by_cases hlt : a + j < c
    · obtain ⟨q, hq⟩ : ∃ q : Nat, a + (j : Int) - 1 = q := ⟨(a + (j : Int) - 1).toNat, by omega⟩
      have hqn : q < n := by omega
      have haj : a + (j : Int) = (q : Int) + 1 := by omega
      rw [haj] at hown
      have hownL : ROwn encI 3 1 w.heap.size wr (.slice (some ⟨w3.heap.size, 0, none⟩) (txt0 n a ((q : Int) + 1)).length n) (txt0 n a ((q : Int) + 1)) := by rw [txt0_len]; exact hown
      obtain ⟨z, hz⟩ : ∃ z, (txt0 n a ((q : Int) + 1))[q]? = some z := ⟨_, List.getElem?_eq_getElem (by rw [txt0_len]; exact hqn)⟩
      obtain ⟨g', cap', e', _, _, _, _, hfz, hcs⟩ := hownL.lies eltI (by rw [txt0_len]; omega)
      cases e'
      have d0 := hcs q z 0 _ hz rfl
      have z0 := hfz q (by rw [txt0_len]; omega)
      have hput := hownL.put eltI hz (j := 0) (y := (1 : Int)) (u := .int .i64 1) (by omega) rfl
      simp only [Nat.mul_one, Nat.add_zero] at d0 hput
      rw [txt0_set hqn (by omega), txt0_len] at hput
      have HPUT := Lib.hid hput
      have HON := Lib.hid (hon.setCell (p := ⟨w3.heap.size, q, none⟩) rfl (.int .i64 1))
      have hw5 : IntKind.i64.wrap (a + (j : Int) - 1) = (q : Int) := by rw [hq]; exact IntWalk.i64_in _ (by omega)
      have hq0 : (q : Int) < n := by omega
      clear hown hownL hz hfz hcs hput hon
      rw [haj] at hlt hw5 ⊢
      go_wp2_with fail
      go_roundw
      case rel => exact ⟨j + 1, by omega, by first | (simp only [Nat.cast_add]; go_num) | (congr 1; omega), by rw [show a + ((j + 1 : Nat) : Int) = (q : Int) + 1 + 1 by omega]; exact HPUT.out, HON.out⟩
      case measure => simp [intOf]; omega
    · have hjc : a + (j : Int) = c := by omega
      rw [hjc] at hown ⊢
      have hst : TxtSt w wr ob fr re (.slice (some ⟨w3.heap.size, 0, none⟩) n n) (txt0 n a c) a c 200 := by
        obtain ⟨S, h1, h2⟩ := HS4.out
        refine ⟨hown, tinv_start ha1 hc1 hc2, by rw [txt0_len]; omega, ⟨S, h1.only hon (fun k hk _ e => (h2 k hk).2 (by rw [e]; rfl)), h2⟩, bw4.trans (hon.below bw4.size (fun k hk => by subst hk; omega))⟩
      have HST := Lib.hid hst
      clear hst hown hon hlt hj HS4 HW4 bw4 hmk hjc hw0 hw1 hw2 hw3 hw4 ha hc hn
      go_wp2_with fail
      go_loopw [16, 18] (fun vt vi wz => ∃ (j : Nat) (T : List Int) (a c : Int), j ≤ l.length ∧ vi = .int .i64 j ∧ TxtSt w wz ob fr re vt T a c (200 + 4 * j)) (fun _ vi _ => l.length - (intOf vi).toNat)
      case atStart => exact ⟨0, _, a, c, by omega, rfl, HST.out⟩
      case round =>
        clear HST ha1 ha2 hc1 hc2
        obtain ⟨j, T, a, c, hj, rfl, hst⟩ := hrel
        by_cases hlt : j < l.length
        · obtain ⟨⟨ki, id, af, at_, anm, an, afr, are, avk, avn⟩, hact⟩ : ∃ x, l[j]? = some x := ⟨_, List.getElem?_eq_getElem hlt⟩
          obtain ⟨g, o, hAe, hg, hcs⟩ := (HA.out.up hst.bel).at_ eltA hact
          have k0 := hcs 0 _ rfl
          have k2 := hcs 2 _ rfl
          have k3 := hcs 3 _ rfl
          have k5 := hcs 5 _ rfl
          simp only [← Nat.add_assoc, Nat.add_zero] at k0 k2 k3 k5
          obtain ⟨Av, cv, rfl, hcv1, hcv2, hsl⟩ := hst.own.shape eltI
          unfold maxLen at hcv2
          have hTl := hst.len
          obtain ⟨t1, t2, t3, _⟩ := hst.inv
          have hjl : (j : Int) < l.length := by omega
          obtain ⟨S, s1, hS⟩ := hst.st
          have wf := hst.wf (by omega)
          have HST := Lib.hid hst
          have HSL := Lib.hid hsl
          have HHS := Lib.hid hS
          obtain ⟨q, hq, hqT⟩ : ∃ q : Nat, pickI af ((T.length : Int) + 1) = q ∧ q ≤ T.length := by
            obtain ⟨q0, q1⟩ := pick_pos af ((T.length : Int) + 1) (by omega)
            exact ⟨(pickI af ((T.length : Int) + 1)).toNat, by omega, by omega⟩
          obtain ⟨d, hd, hdT⟩ : ∃ d : Nat, pickI at_ ((T.length : Int) + 2 - (1 + q)) = d ∧ q + d ≤ T.length := by
            obtain ⟨q0, q1⟩ := pick_pos at_ ((T.length : Int) + 2 - (1 + q)) (by omega)
            exact ⟨(pickI at_ ((T.length : Int) + 2 - (1 + q))).toNat, by omega, by omega⟩
          obtain ⟨en, he, heT⟩ : ∃ d : Nat, pickI an 5 = d ∧ d < 5 := by
            obtain ⟨q0, q1⟩ := pick_pos an 5 (by omega)
            exact ⟨(pickI an 5).toNat, by omega, by omega⟩
          obtain ⟨r0, r1⟩ := pick_pos ki 10 (by omega)
          have hws1 : IntKind.i64.wrap ((T.length : Int) + 1) = (T.length : Int) + 1 := IntWalk.i64_in _ (by omega)
          have hws2 : IntKind.i64.wrap (1 + (q : Int)) = 1 + (q : Int) := IntWalk.i64_in _ (by omega)
          clear hst hsl hS hact hcs
          subst hAe
          go_wp2_with fail
          refine (s_ends s1 wf 0).mono ?_
          rw [one_ends]
          rintro e w5 ⟨rfl, hb5⟩
          have s5 := s1.up hb5
          have st5 := HST.out.up hb5
          have hg5 := hb5
          have k0 := (hb5.cell (p := ⟨g, o + j * 10, none⟩) hg).trans k0
          have k2 := (hb5.cell (p := ⟨g, o + j * 10 + 2, none⟩) hg).trans k2
          have k3 := (hb5.cell (p := ⟨g, o + j * 10 + 3, none⟩) hg).trans k3
          have k5 := (hb5.cell (p := ⟨g, o + j * 10 + 5, none⟩) hg).trans k5
          have HG := Lib.hid (Nat.lt_of_lt_of_le hg hb5.size)
          have SL5 := Lib.hid (HSL.out.up hb5)
          have HST5 := Lib.hid st5
          clear s1 hb5 hg5 st5 hg HST HSL
          go_wp2_with fail
          refine (pick_any af _ _ (by omega) (by omega)).mono ?_
          rintro e w' ⟨rfl, rfl⟩
          rw [hq]
          go_wp2_with fail
          refine (pick_any ki 10 _ (by omega) (by omega)).mono ?_
          rintro e w' ⟨rfl, rfl⟩
          go_upto_if 106 with fail
          go_cut [16] (fun vt wx => ∃ (T' : List Int) (a' c' : Int), TxtSt w wx ob fr re vt T' a' c' (200 + 4 * (j + 1)))
          case first =>
            clear hj
            by_cases hk7 : (7 : Int) < pickI ki 10
            · as_aux_lemma =>
              have hws3 : IntKind.i64.wrap ((T.length : Int) + 2) = (T.length : Int) + 2 := IntWalk.i64_in _ (by omega)
              have hws4 : IntKind.i64.wrap ((T.length : Int) + 2 - (1 + (q : Int))) = (T.length : Int) + 2 - (1 + (q : Int)) := IntWalk.i64_in _ (by omega)
              have hws5 : IntKind.i64.wrap (1 + (q : Int) + d) = 1 + (q : Int) + d := IntWalk.i64_in _ (by omega)
              have hr : rightI (1 + (q : Int)) (1 + (q : Int) + d) = true := (rightI_iff _ _).2 (by omega)
              obtain ⟨e1, e2, e3⟩ := one_del (a := a) (b := c) (fr := fr) (re := re) hr
              have HDEL := Lib.hid (s_del s5 wf (1 + (q : Int)) (1 + (q : Int) + d))
              rw [e1, e2, e3] at HDEL
              clear e1 e2 e3 hr
              go_wp2_with fail
              refine (pick_any at_ _ _ (by omega) (by omega)).mono ?_
              rintro e w' ⟨rfl, rfl⟩
              rw [hd]
              go_wp2_with fail
              refine HDEL.out.mono ?_
              rintro e w6 ⟨gv, rfl, og, S6, s6, on6, hS6⟩
              have hst5 := HST5.out
              have hz5 := hst5.bel.size
              have bel6 : Below w.heap.size w w6 := hst5.bel.trans (on6.below hz5 (fun k hk => (HHS.out k hk).1))
              have own6 := hst5.own.kept (w' := w6) fun k hk => on6.block k (hst5.own.lt hk) (fun e => (HHS.out k e).2 hk)
              obtain ⟨A6, c6, e6, _, _, sl6⟩ := own6.shape eltI
              cases e6
              obtain ⟨a7, wa7, a8, wa8, ra7, ra8, oa8, ba7, ba8⟩ := delA eltI (by omega) (i := q) (j := q + d) sl6 hcv1 (by omega) hdT (by omega)
              have hfin : TxtSt w wa8 ob fr re a8 (T.take q ++ T.drop (q + d)) (backI a (1 + (q : Int)) (1 + (q : Int) + d)) (backI c (1 + (q : Int)) (1 + (q : Int) + d)) (200 + 4 * (j + 1)) :=
                hst5.next s6 (fun k hk => by rcases hS6 k hk with h | h
                                             · exact (HHS.out k h).1
                                             · omega) bel6 oa8 ba8 (tinv_del hst5.inv q d hdT) (by simp; omega)
              have HFIN := Lib.hid hfin
              have BA7 := Lib.hid ba7
              have BA8 := Lib.hid ba8
              obtain ⟨Ag, cg, rfl, _, _, _⟩ := og.shape eltI
              have hw1 : IntKind.i64.wrap (1 + (q : Int) - 1) = q := by rw [IntWalk.i64_in _ (by omega)]; omega
              have hw2 : IntKind.i64.wrap ((q : Int) + d) = q + d := IntWalk.i64_in _ (by omega)
              have hi1 : (q : Int) ≤ cv := by omega
              have hi2 : (q : Int) + d ≤ T.length := by omega
              have hi3 : 0 ≤ (q : Int) + d := by omega
              have hi4 : ((q : Int) + d).toNat = q + d := by omega
              obtain ⟨A8, c8, hv8, _, _, _⟩ := oa8.shape eltI
              generalize (T.take q ++ T.drop (q + d)).length = n8 at hv8
              subst hv8
              unfold AppRun at ra7 ra8
              unfold tailA at ra8
              clear HDEL og s6 on6 hS6 hst5 hz5 bel6 own6 sl6 oa8 ba7 ba8 hfin k0 k2 k3 k5 s5 wf hws1 hws2 hws3 hws4 hws5 hd he hq
              by_cases hcp : cv = q + d
              · subst hcp
                rw [if_pos rfl, Nat.sub_self, show T.length - (q + d) = 0 by omega] at ra8
                have RA7 := Lib.hid ra7
                have RA8 := Lib.hid ra8
                clear ra7 ra8
                go_wp2_with fail
                refine wp_region_mixT w6.heap.size 14 (.one [1, 2, 3, 4, 6, 7, 8, 9, 10, 11] 0 (.one [] 5 (.one [] 12 (.done [13])))) (by kernel_rfl) (fun c d v a w h => by cases d <;> exact h) (by kernel_rfl) ?_
                simp only [wpMixT, pk_nil, pk_cons, pushAt_zero, pushAt_succ, List.drop_succ_cons, List.drop_zero]
                repeat (go_big_quiet_step (fail))
                refine wpQuiet_nil ?_
                go_wp2_with fail
                refine thenQ_normal ⟨⟨⟨_, (below1 w6 _).drew⟩, rfl⟩, ?_⟩
                refine wpQuiet_nil ?_
                refine wpList_app_run rfl _ _ _ rfl rfl rfl RA7.out ?_
                go_wp2_with fail
                refine thenQ_normal ⟨⟨⟨_, BA7.out⟩, rfl⟩, ?_⟩
                refine wpQuiet_nil ?_
                refine wpList_app_run rfl _ _ _ rfl rfl rfl RA8.out ?_
                go_wp2_with fail
                refine thenQ_normal ⟨⟨⟨_, BA8.out⟩, rfl⟩, ?_⟩
                repeat (go_big_quiet_step (fail))
                refine wpQuiet_nil ?_
                go_wp2_with fail
                go_meet
                exact ⟨_, _, _, HFIN.out⟩
              · rw [if_neg hcp, Nat.mul_one] at ra8
                have RA7 := Lib.hid ra7
                have RA8 := Lib.hid ra8
                clear ra7 ra8
                go_wp2_with fail
                refine wp_region_mixT w6.heap.size 14 (.one [1, 2, 3, 4, 6, 7, 8, 9, 10, 11] 0 (.one [] 5 (.one [] 12 (.done [13])))) (by kernel_rfl) (fun c d v a w h => by cases d <;> exact h) (by kernel_rfl) ?_
                simp only [wpMixT, pk_nil, pk_cons, pushAt_zero, pushAt_succ, List.drop_succ_cons, List.drop_zero]
                repeat (go_big_quiet_step (fail))
                refine wpQuiet_nil ?_
                go_wp2_with fail
                refine thenQ_normal ⟨⟨⟨_, (below1 w6 _).drew⟩, rfl⟩, ?_⟩
                refine wpQuiet_nil ?_
                refine wpList_app_run rfl _ _ _ rfl rfl rfl RA7.out ?_
                go_wp2_with fail
                refine thenQ_normal ⟨⟨⟨_, BA7.out⟩, rfl⟩, ?_⟩
                refine wpQuiet_nil ?_
                refine wpList_app_run rfl _ _ _ rfl rfl rfl RA8.out ?_
                go_wp2_with fail
                refine thenQ_normal ⟨⟨⟨_, BA8.out⟩, rfl⟩, ?_⟩
                repeat (go_big_quiet_step (fail))
                refine wpQuiet_nil ?_
                go_wp2_with fail
                go_meet
                exact ⟨_, _, _, HFIN.out⟩
            · as_aux_lemma =>
              obtain ⟨i1, i2, i3, i4⟩ := tinv_ins HST5.out.inv q en hqT fr re
              have hil : (T.take q ++ List.replicate en (kindI fr re a c (1 + q)) ++ T.drop q).length = T.length + en := by simp; omega
              rw [hil] at i3
              have hpl : placeI (1 + (q : Int)) = true := (placeI_iff _).2 (by omega)
              have hpl2 : placeI (insT (1 + (q : Int)) en a c fr re) = true := (placeI_iff _).2 (by omega)
              obtain ⟨e1, e2⟩ := one_ins (a := a) (b := c) (fr := fr) (re := re) hpl (show (0 : Int) ≤ en by omega) (by omega) hpl2
              have HINS := Lib.hid (s_ins s5 wf (1 + (q : Int)) en)
              rw [e1, e2] at HINS
              clear e1 e2 hpl hpl2 i1 i2 i3 i4 hil
              go_wp2_with fail
              refine (pick_any an 5 _ (by omega) (by omega)).mono ?_
              rintro e w' ⟨rfl, rfl⟩
              rw [he]
              go_wp2_with fail
              refine HINS.out.mono ?_
              rintro e w6 ⟨rfl, S6, s6, on6, hS6⟩
              have hst5 := HST5.out
              have hz5 := hst5.bel.size
              have bel6 : Below w.heap.size w w6 := hst5.bel.trans (on6.below hz5 (fun k hk => (HHS.out k hk).1))
              have own6 := hst5.own.kept (w' := w6) fun k hk => on6.block k (hst5.own.lt hk) (fun e => (HHS.out k e).2 hk)
              obtain ⟨A6, c6, e6, _, _, sl6⟩ := own6.shape eltI
              cases e6
              have hS6' : ∀ k, S6 k → w.heap.size ≤ k := fun k hk => by
                rcases hS6 k hk with h | h
                · exact (HHS.out k h).1
                · omega
              have S6H := Lib.hid hS6'
              have SL6 := Lib.hid sl6
              have BEL6 := Lib.hid bel6
              have OST6 := Lib.hid s6
              clear HINS s6 on6 hS6 hS6' hst5 hz5 bel6 own6 sl6 k0 k2 k3 k5 s5 wf hws1 hws2 hd he hq
              go_upto_region 34 with fail
              go_cut [204] (fun v wx => v = .bool (kindB fr re a c (1 + (q : Int))) ∧ wx = w6)
              case first =>
                as_aux_lemma =>
                have hcase : (a < 1 + (q : Int) ∧ 1 + (q : Int) < c) ∨ (a < 1 + (q : Int) ∧ 1 + (q : Int) = c) ∨ (a < 1 + (q : Int) ∧ c < 1 + (q : Int) ∧ a < c) ∨ (a < 1 + (q : Int) ∧ c < 1 + (q : Int) ∧ a = c) ∨ (a = 1 + (q : Int) ∧ a < c) ∨ (1 + (q : Int) < a ∧ a < c) ∨ (a = 1 + (q : Int) ∧ a = c) ∨ (1 + (q : Int) < a ∧ a = c) := by omega
                clear HST5 SL5 HG HHS S6H SL6 BEL6 OST6 HA r0 r1
                generalize 1 + (q : Int) = kq at *
                rcases hcase with ⟨y1, y2⟩ | ⟨y1, y2⟩ | ⟨y1, y2, y3⟩ | ⟨y1, y2, y3⟩ | ⟨y1, y2⟩ | ⟨y1, y2⟩ | ⟨y1, y2⟩ | ⟨y1, y2⟩
                · have f0 : decide (a < kq) = true := decide_eq_true (by omega)
                  have f1 : decide (kq < c) = true := decide_eq_true (by omega)
                  have f2 : decide (a < c) = true := decide_eq_true (by omega)
                  have f3 : (kq == a) = false := beq_eq_false_iff_ne.2 (by omega)
                  have f4 : (kq == c) = false := beq_eq_false_iff_ne.2 (by omega)
                  have f5 : (a == c) = false := beq_eq_false_iff_ne.2 (by omega)
                  have hv : kindB fr re a c kq = true := by
                    unfold kindB
                    rw [show decide (a < kq) = true from decide_eq_true (by omega), show decide (kq < c) = true from decide_eq_true (by omega), show decide (a < c) = true from decide_eq_true (by omega), show decide (kq = a) = false from decide_eq_false (by omega), show decide (kq = c) = false from decide_eq_false (by omega), show decide (a = c) = false from decide_eq_false (by omega)]
                    cases fr <;> cases re <;> rfl
                  have HV := Lib.hid hv
                  clear y1 y2 hv
                  go_wp2_with fail
                  go_meet
                  exact ⟨by rw [HV.out], rfl⟩
                · have f0 : decide (a < kq) = true := decide_eq_true (by omega)
                  have f1 : decide (kq < c) = false := decide_eq_false (by omega)
                  have f2 : decide (a < c) = true := decide_eq_true (by omega)
                  have f3 : (kq == a) = false := beq_eq_false_iff_ne.2 (by omega)
                  have f4 : (kq == c) = true := beq_iff_eq.2 (by omega)
                  have f5 : (a == c) = false := beq_eq_false_iff_ne.2 (by omega)
                  cases re
                  · have hv : kindB fr false a c kq = false := by
                      unfold kindB
                      rw [show decide (a < kq) = true from decide_eq_true (by omega), show decide (kq < c) = false from decide_eq_false (by omega), show decide (a < c) = true from decide_eq_true (by omega), show decide (kq = a) = false from decide_eq_false (by omega), show decide (kq = c) = true from decide_eq_true (by omega), show decide (a = c) = false from decide_eq_false (by omega)]
                      cases fr <;> rfl
                    have HV := Lib.hid hv
                    clear y1 y2 hv
                    go_wp2_with fail
                    go_meet
                    exact ⟨by rw [HV.out], rfl⟩
                  · have hv : kindB fr true a c kq = true := by
                      unfold kindB
                      rw [show decide (a < kq) = true from decide_eq_true (by omega), show decide (kq < c) = false from decide_eq_false (by omega), show decide (a < c) = true from decide_eq_true (by omega), show decide (kq = a) = false from decide_eq_false (by omega), show decide (kq = c) = true from decide_eq_true (by omega), show decide (a = c) = false from decide_eq_false (by omega)]
                      cases fr <;> rfl
                    have HV := Lib.hid hv
                    clear y1 y2 hv
                    go_wp2_with fail
                    go_meet
                    exact ⟨by rw [HV.out], rfl⟩
                · have f0 : decide (a < kq) = true := decide_eq_true (by omega)
                  have f1 : decide (kq < c) = false := decide_eq_false (by omega)
                  have f2 : decide (a < c) = true := decide_eq_true (by omega)
                  have f3 : (kq == a) = false := beq_eq_false_iff_ne.2 (by omega)
                  have f4 : (kq == c) = false := beq_eq_false_iff_ne.2 (by omega)
                  have f5 : (a == c) = false := beq_eq_false_iff_ne.2 (by omega)
                  have hv : kindB fr re a c kq = false := by
                    unfold kindB
                    rw [show decide (a < kq) = true from decide_eq_true (by omega), show decide (kq < c) = false from decide_eq_false (by omega), show decide (a < c) = true from decide_eq_true (by omega), show decide (kq = a) = false from decide_eq_false (by omega), show decide (kq = c) = false from decide_eq_false (by omega), show decide (a = c) = false from decide_eq_false (by omega)]
                    cases fr <;> cases re <;> rfl
                  have HV := Lib.hid hv
                  clear y1 y2 y3 hv
                  go_wp2_with fail
                  go_meet
                  exact ⟨by rw [HV.out], rfl⟩
                · have f0 : decide (a < kq) = true := decide_eq_true (by omega)
                  have f1 : decide (kq < c) = false := decide_eq_false (by omega)
                  have f2 : decide (a < c) = false := decide_eq_false (by omega)
                  have f3 : (kq == a) = false := beq_eq_false_iff_ne.2 (by omega)
                  have f4 : (kq == c) = false := beq_eq_false_iff_ne.2 (by omega)
                  have f5 : (a == c) = true := beq_iff_eq.2 (by omega)
                  have hv : kindB fr re a c kq = false := by
                    unfold kindB
                    rw [show decide (a < kq) = true from decide_eq_true (by omega), show decide (kq < c) = false from decide_eq_false (by omega), show decide (a < c) = false from decide_eq_false (by omega), show decide (kq = a) = false from decide_eq_false (by omega), show decide (kq = c) = false from decide_eq_false (by omega), show decide (a = c) = true from decide_eq_true (by omega)]
                    cases fr <;> cases re <;> rfl
                  have HV := Lib.hid hv
                  clear y1 y2 y3 hv
                  go_wp2_with fail
                  go_meet
                  exact ⟨by rw [HV.out], rfl⟩
                · have f0 : decide (a < kq) = false := decide_eq_false (by omega)
                  have f1 : decide (kq < c) = true := decide_eq_true (by omega)
                  have f2 : decide (a < c) = true := decide_eq_true (by omega)
                  have f3 : (kq == a) = true := beq_iff_eq.2 (by omega)
                  have f4 : (kq == c) = false := beq_eq_false_iff_ne.2 (by omega)
                  have f5 : (a == c) = false := beq_eq_false_iff_ne.2 (by omega)
                  cases fr
                  · have hv : kindB false re a c kq = true := by
                      unfold kindB
                      rw [show decide (a < kq) = false from decide_eq_false (by omega), show decide (kq < c) = true from decide_eq_true (by omega), show decide (a < c) = true from decide_eq_true (by omega), show decide (kq = a) = true from decide_eq_true (by omega), show decide (kq = c) = false from decide_eq_false (by omega), show decide (a = c) = false from decide_eq_false (by omega)]
                      cases re <;> rfl
                    have HV := Lib.hid hv
                    clear y1 y2 hv
                    go_wp2_with fail
                    go_meet
                    exact ⟨by rw [HV.out], rfl⟩
                  · have hv : kindB true re a c kq = false := by
                      unfold kindB
                      rw [show decide (a < kq) = false from decide_eq_false (by omega), show decide (kq < c) = true from decide_eq_true (by omega), show decide (a < c) = true from decide_eq_true (by omega), show decide (kq = a) = true from decide_eq_true (by omega), show decide (kq = c) = false from decide_eq_false (by omega), show decide (a = c) = false from decide_eq_false (by omega)]
                      cases re <;> rfl
                    have HV := Lib.hid hv
                    clear y1 y2 hv
                    go_wp2_with fail
                    go_meet
                    exact ⟨by rw [HV.out], rfl⟩
                · have f0 : decide (a < kq) = false := decide_eq_false (by omega)
                  have f1 : decide (kq < c) = true := decide_eq_true (by omega)
                  have f2 : decide (a < c) = true := decide_eq_true (by omega)
                  have f3 : (kq == a) = false := beq_eq_false_iff_ne.2 (by omega)
                  have f4 : (kq == c) = false := beq_eq_false_iff_ne.2 (by omega)
                  have f5 : (a == c) = false := beq_eq_false_iff_ne.2 (by omega)
                  have hv : kindB fr re a c kq = false := by
                    unfold kindB
                    rw [show decide (a < kq) = false from decide_eq_false (by omega), show decide (kq < c) = true from decide_eq_true (by omega), show decide (a < c) = true from decide_eq_true (by omega), show decide (kq = a) = false from decide_eq_false (by omega), show decide (kq = c) = false from decide_eq_false (by omega), show decide (a = c) = false from decide_eq_false (by omega)]
                    cases fr <;> cases re <;> rfl
                  have HV := Lib.hid hv
                  clear y1 y2 hv
                  go_wp2_with fail
                  go_meet
                  exact ⟨by rw [HV.out], rfl⟩
                · have f0 : decide (a < kq) = false := decide_eq_false (by omega)
                  have f1 : decide (kq < c) = false := decide_eq_false (by omega)
                  have f2 : decide (a < c) = false := decide_eq_false (by omega)
                  have f3 : (kq == a) = true := beq_iff_eq.2 (by omega)
                  have f4 : (kq == c) = true := beq_iff_eq.2 (by omega)
                  have f5 : (a == c) = true := beq_iff_eq.2 (by omega)
                  cases fr
                  · cases re
                    · have hv : kindB false false a c kq = false := by
                        unfold kindB
                        rw [show decide (a < kq) = false from decide_eq_false (by omega), show decide (kq < c) = false from decide_eq_false (by omega), show decide (a < c) = false from decide_eq_false (by omega), show decide (kq = a) = true from decide_eq_true (by omega), show decide (kq = c) = true from decide_eq_true (by omega), show decide (a = c) = true from decide_eq_true (by omega)]
                        rfl
                      have HV := Lib.hid hv
                      clear y1 y2 hv
                      go_wp2_with fail
                      go_meet
                      exact ⟨by rw [HV.out], rfl⟩
                    · have hv : kindB false true a c kq = true := by
                        unfold kindB
                        rw [show decide (a < kq) = false from decide_eq_false (by omega), show decide (kq < c) = false from decide_eq_false (by omega), show decide (a < c) = false from decide_eq_false (by omega), show decide (kq = a) = true from decide_eq_true (by omega), show decide (kq = c) = true from decide_eq_true (by omega), show decide (a = c) = true from decide_eq_true (by omega)]
                        rfl
                      have HV := Lib.hid hv
                      clear y1 y2 hv
                      go_wp2_with fail
                      go_meet
                      exact ⟨by rw [HV.out], rfl⟩
                  · have hv : kindB true re a c kq = false := by
                      unfold kindB
                      rw [show decide (a < kq) = false from decide_eq_false (by omega), show decide (kq < c) = false from decide_eq_false (by omega), show decide (a < c) = false from decide_eq_false (by omega), show decide (kq = a) = true from decide_eq_true (by omega), show decide (kq = c) = true from decide_eq_true (by omega), show decide (a = c) = true from decide_eq_true (by omega)]
                      cases re <;> rfl
                    have HV := Lib.hid hv
                    clear y1 y2 hv
                    go_wp2_with fail
                    go_meet
                    exact ⟨by rw [HV.out], rfl⟩
                · have f0 : decide (a < kq) = false := decide_eq_false (by omega)
                  have f1 : decide (kq < c) = true := decide_eq_true (by omega)
                  have f2 : decide (a < c) = false := decide_eq_false (by omega)
                  have f3 : (kq == a) = false := beq_eq_false_iff_ne.2 (by omega)
                  have f4 : (kq == c) = false := beq_eq_false_iff_ne.2 (by omega)
                  have f5 : (a == c) = true := beq_iff_eq.2 (by omega)
                  have hv : kindB fr re a c kq = false := by
                    unfold kindB
                    rw [show decide (a < kq) = false from decide_eq_false (by omega), show decide (kq < c) = true from decide_eq_true (by omega), show decide (a < c) = false from decide_eq_false (by omega), show decide (kq = a) = false from decide_eq_false (by omega), show decide (kq = c) = false from decide_eq_false (by omega), show decide (a = c) = true from decide_eq_true (by omega)]
                    cases fr <;> cases re <;> rfl
                  have HV := Lib.hid hv
                  clear y1 y2 hv
                  go_wp2_with fail
                  go_meet
                  exact ⟨by rw [HV.out], rfl⟩
              case rest =>
                as_aux_lemma =>
                obtain ⟨rfl, rfl⟩ := hcut
                go_upto_if 204 with fail
                go_cut [27] (fun v wx => v = .int .i64 (kindI fr re a c (1 + (q : Int))) ∧ wx = wc)
                case first =>
                  clear HST5 SL5 HG HHS S6H SL6 BEL6 OST6 HA r0 r1
                  cases hkb : kindB fr re a c (1 + (q : Int)) with
                  | true =>
                    have HK := Lib.hid hkb
                    clear hkb
                    go_wp2_with fail
                    go_meet
                    exact ⟨by unfold kindI; rw [HK.out]; rfl, rfl⟩
                  | false =>
                    have HK := Lib.hid hkb
                    clear hkb
                    go_wp2_with fail
                    go_meet
                    exact ⟨by unfold kindI; rw [HK.out]; rfl, rfl⟩
                case rest =>
                  as_aux_lemma =>
                  obtain ⟨rfl, hwc⟩ := hcut
                  subst hwc
                  obtain ⟨kz, hkz⟩ : ∃ kz, kz = kindI fr re a c (1 + (q : Int)) := ⟨_, rfl⟩
                  have HKZ := Lib.hid hkz
                  rw [← hkz]
                  clear hkz
                  generalize kindB fr re a c (1 + (q : Int)) = kb at *
                  go_wp2_with fail
                  go_loopw [28] (fun vt wz => ∃ i : Nat, i ≤ en ∧ ROwn encI 3 1 wc.heap.size wz vt (List.replicate i kz) ∧ Below wc.heap.size wc wz) (fun vt _ => en - slLen vt)
                  case atStart => exact ⟨0, by omega, ROwn.nil _ _, Below.refl _ _⟩
                  case round =>
                    obtain ⟨i, hi, hown7, hbel7⟩ := hrel
                    have hsz7 := hbel7.size
                    obtain ⟨A7, cp7, hv7, hAl7, hAm7, hAs7⟩ := hown7.shape eltI
                    rw [List.length_replicate] at hv7
                    subst hv7
                    by_cases hlt7 : i < en
                    · obtain ⟨v', w', happ, hown', hb', _, _⟩ := append_elem eltI hown7 (by omega) kz (by simp; omega) (by omega)
                      rw [show List.replicate i kz ++ [kz] = List.replicate (i + 1) kz from (List.replicate_succ').symm] at hown'
                      have hi7 : (i : Int) < (en : Int) := by omega
                      have HP := Lib.hid happ
                      have HO7 := Lib.hid hown'
                      have HB7 := Lib.hid (hbel7.trans hb')
                      obtain ⟨A8, cp8, hv8, _, _, _⟩ := hown'.shape eltI
                      rw [List.length_replicate] at hv8
                      clear happ hown' hb' hown7 hbel7 hAs7
                      subst hv8
                      go_wp2_with (at_builtin; refine wpList_app_run rfl _ _ _ rfl rfl rfl HP.out ?_)
                      go_roundw
                      case rel => exact ⟨i + 1, by omega, HO7.out, HB7.out⟩
                      case measure => simp [slLen]; omega
                    · obtain rfl : i = en := by omega
                      have hsl7 := SL6.out.up hbel7
                      have st7 := OST6.out.up hbel7
                      have bel7 := up2 BEL6.out hbel7
                      obtain ⟨a7, wa7, a8, wa8, a9, wa9, ra7, ra8, ra9, oa9, ba7, ba8, ba9⟩ := insL eltI (by omega) (k := q) (c2 := cp7) hsl7 hAs7 hcv1 hqT (by omega) (by simp; omega)
                      rw [List.length_replicate] at ra8
                      have hfin : TxtSt w wa9 ob fr re a9 (T.take q ++ List.replicate i kz ++ T.drop q) (insF (1 + (q : Int)) i a c fr re) (insT (1 + (q : Int)) i a c fr re) (200 + 4 * (j + 1)) :=
                        HST5.out.next st7 S6H.out bel7 oa9 ba9 (by rw [HKZ.out]; exact tinv_ins HST5.out.inv q i hqT fr re) (by simp; omega)
                      have HFIN := Lib.hid hfin
                      have BA7 := Lib.hid ba7
                      have BA8 := Lib.hid ba8
                      have BA9 := Lib.hid ba9
                      have hw1 : IntKind.i64.wrap (1 + (q : Int) - 1) = q := by rw [IntWalk.i64_in _ (by omega)]; omega
                      have hi1 : (q : Int) ≤ cv := by omega
                      have hi2 : (q : Int) ≤ T.length := by omega
                      obtain ⟨A9, c9, hv9, _, _, _⟩ := oa9.shape eltI
                      generalize (T.take q ++ List.replicate i kz ++ T.drop q).length = n9 at hv9
                      subst hv9
                      unfold AppRun at ra7 ra8 ra9
                      unfold tailA at ra9
                      obtain ⟨wy, hwy⟩ : ∃ wy, wy = wr := ⟨_, rfl⟩
                      clear hown7 hbel7 hsl7 st7 bel7 oa9 ba7 ba8 ba9 hfin hAs7 hlt7 HST5 SL5 HHS S6H SL6 BEL6 OST6 HKZ
                      by_cases hcp : cv = q
                      · subst hcp
                        rw [if_pos rfl, Nat.sub_self, show T.length - cv = 0 by omega] at ra9
                        have RA7 := Lib.hid ra7
                        have RA8 := Lib.hid ra8
                        have RA9 := Lib.hid ra9
                        clear ra7 ra8 ra9
                        go_wp2_with fail
                        refine wp_region_mixT wr.heap.size 14 (.one [1, 2, 3, 4, 6, 8, 9, 10, 11] 0 (.one [] 5 (.one [] 7 (.one [] 12 (.done [13]))))) (by kernel_rfl) (fun c d v a w h => by cases d <;> exact h) (by kernel_rfl) ?_
                        simp only [wpMixT, pk_nil, pk_cons, pushAt_zero, pushAt_succ, List.drop_succ_cons, List.drop_zero]
                        repeat (go_big_quiet_step (fail))
                        refine wpQuiet_nil ?_
                        go_wp2_with fail
                        refine thenQ_normal ⟨⟨⟨_, (below1 wr _).drew⟩, rfl⟩, ?_⟩
                        refine wpQuiet_nil ?_
                        refine wpList_app_run rfl _ _ _ rfl rfl rfl RA7.out ?_
                        go_wp2_with fail
                        refine thenQ_normal ⟨⟨⟨_, BA7.out⟩, rfl⟩, ?_⟩
                        refine wpQuiet_nil ?_
                        refine wpList_app_run rfl _ _ _ rfl rfl rfl RA8.out ?_
                        go_wp2_with fail
                        refine thenQ_normal ⟨⟨⟨_, BA8.out⟩, rfl⟩, ?_⟩
                        refine wpQuiet_nil ?_
                        refine wpList_app_run rfl _ _ _ rfl rfl rfl RA9.out ?_
                        go_wp2_with fail
                        refine thenQ_normal ⟨⟨⟨_, BA9.out⟩, rfl⟩, ?_⟩
                        repeat (go_big_quiet_step (fail))
                        refine wpQuiet_nil ?_
                        go_wp2_with fail
                        go_meet
                        exact ⟨_, _, _, HFIN.out⟩
                      · rw [if_neg hcp, Nat.mul_one] at ra9
                        have RA7 := Lib.hid ra7
                        have RA8 := Lib.hid ra8
                        have RA9 := Lib.hid ra9
                        clear ra7 ra8 ra9
                        go_wp2_with fail
                        refine wp_region_mixT wr.heap.size 14 (.one [1, 2, 3, 4, 6, 8, 9, 10, 11] 0 (.one [] 5 (.one [] 7 (.one [] 12 (.done [13]))))) (by kernel_rfl) (fun c d v a w h => by cases d <;> exact h) (by kernel_rfl) ?_
                        simp only [wpMixT, pk_nil, pk_cons, pushAt_zero, pushAt_succ, List.drop_succ_cons, List.drop_zero]
                        repeat (go_big_quiet_step (fail))
                        refine wpQuiet_nil ?_
                        go_wp2_with fail
                        refine thenQ_normal ⟨⟨⟨_, (below1 wr _).drew⟩, rfl⟩, ?_⟩
                        refine wpQuiet_nil ?_
                        refine wpList_app_run rfl _ _ _ rfl rfl rfl RA7.out ?_
                        go_wp2_with fail
                        refine thenQ_normal ⟨⟨⟨_, BA7.out⟩, rfl⟩, ?_⟩
                        refine wpQuiet_nil ?_
                        refine wpList_app_run rfl _ _ _ rfl rfl rfl RA8.out ?_
                        go_wp2_with fail
                        refine thenQ_normal ⟨⟨⟨_, BA8.out⟩, rfl⟩, ?_⟩
                        refine wpQuiet_nil ?_
                        refine wpList_app_run rfl _ _ _ rfl rfl rfl RA9.out ?_
                        go_wp2_with fail
                        refine thenQ_normal ⟨⟨⟨_, BA9.out⟩, rfl⟩, ?_⟩
                        repeat (go_big_quiet_step (fail))
                        refine wpQuiet_nil ?_
                        go_wp2_with fail
                        go_meet
                        exact ⟨_, _, _, HFIN.out⟩
          case rest =>
            as_aux_lemma =>
            clear k0 k2 k3 k5 s5 wf hws1 hws2 hd he hq HST5 SL5 HG HHS t1 t2 t3 hTl hcv1 hcv2 r0 r1 hqT hdT heT
            obtain ⟨T', a', c', st6⟩ := hcut
            obtain ⟨A9, cp9, hv9, hc9, hm9, sl9⟩ := st6.own.shape eltI
            obtain ⟨t1, t2, t3, t4⟩ := st6.inv
            have hTl := st6.len
            obtain ⟨S6, s6, _⟩ := st6.st
            have wf6 := st6.wf (by omega)
            have HST := Lib.hid st6
            have HT4 := Lib.hid t4
            have SL9 := Lib.hid sl9
            unfold maxLen at hm9
            clear st6 sl9 t4
            subst hv9
            go_wp2_with fail
            refine (s_ends s6 wf6 0).mono ?_
            rw [one_ends]
            rintro e w7 ⟨rfl, hb7⟩
            have st7 := HST.out.up hb7
            have HST7 := Lib.hid st7
            have SL7 := Lib.hid (SL9.out.up hb7)
            have g1 : decide (a' < (1 : Int)) = false := decide_eq_false (by omega)
            have g2 : decide (c' < a') = false := decide_eq_false (by omega)
            have g3 : decide ((T'.length : Int) + 1 < c') = false := decide_eq_false (by omega)
            have hws : IntKind.i64.wrap ((T'.length : Int) + 1) = (T'.length : Int) + 1 := IntWalk.i64_in _ (by omega)
            clear s6 wf6 HST SL9 hb7 st7
            go_wp2_with fail
            go_loopw [29] (fun vi wz => ∃ x : Nat, x ≤ T'.length ∧ vi = .int .i64 x ∧ wz = w7) (fun vi _ => T'.length - (intOf vi).toNat)
            case atStart => exact ⟨0, by omega, rfl, rfl⟩
            case round =>
              obtain ⟨x, hx, rfl, rfl⟩ := hrel
              by_cases hlt9 : x < T'.length
              · obtain ⟨z, hz⟩ : ∃ z, T'[x]? = some z := ⟨_, List.getElem?_eq_getElem hlt9⟩
                obtain ⟨g9, o9, hAe9, hg9, hc9'⟩ := SL7.out.at_ eltI hz
                subst hAe9
                have d0 := hc9' 0 _ rfl
                simp only [Nat.mul_one, Nat.add_zero] at d0
                have hin := HT4.out x z hz
                have hxl : (x : Int) < T'.length := by omega
                have hwx : IntKind.i64.wrap ((x : Int) + 1) = (x : Int) + 1 := IntWalk.i64_in _ (by omega)
                have hcase : (a' ≤ (x : Int) + 1 ∧ (x : Int) + 1 < c' ∧ z = 1) ∨ (a' ≤ (x : Int) + 1 ∧ (x : Int) + 1 < c' ∧ z ≠ 1 ∧ z = 2) ∨ (¬ a' ≤ (x : Int) + 1 ∧ z ≠ 1 ∧ z ≠ 2) ∨ (a' ≤ (x : Int) + 1 ∧ ¬ (x : Int) + 1 < c' ∧ z ≠ 1 ∧ z ≠ 2) := by omega
                clear hz hc9' hin
                rcases hcase with ⟨y1, y2, y3⟩ | ⟨y1, y2, y3, y4⟩ | ⟨y1, y3, y4⟩ | ⟨y1, y2, y3, y4⟩
                · have f1 : decide (a' ≤ (x : Int) + 1) = true := decide_eq_true y1
                  have f2 : decide ((x : Int) + 1 < c') = true := decide_eq_true y2
                  have f3 : (z == 1) = true := by simpa using y3
                  clear y1 y2 y3
                  go_wp2_with fail
                  exact ⟨⟨x + 1, by omega, by go_num, by first | trivial | rfl⟩, by simp [intOf]; omega⟩
                · have f1 : decide (a' ≤ (x : Int) + 1) = true := decide_eq_true y1
                  have f2 : decide ((x : Int) + 1 < c') = true := decide_eq_true y2
                  have f3 : (z == 1) = false := by simpa using y3
                  have f4 : (z == 2) = true := by simpa using y4
                  clear y1 y2 y3 y4
                  go_wp2_with fail
                  exact ⟨⟨x + 1, by omega, by go_num, by first | trivial | rfl⟩, by simp [intOf]; omega⟩
                · have f1 : decide (a' ≤ (x : Int) + 1) = false := decide_eq_false y1
                  have f3 : (z == 1) = false := by simpa using y3
                  have f4 : (z == 2) = false := by simpa using y4
                  clear y1 y3 y4
                  go_wp2_with fail
                  exact ⟨⟨x + 1, by omega, by go_num, by first | trivial | rfl⟩, by simp [intOf]; omega⟩
                · have f1 : decide (a' ≤ (x : Int) + 1) = true := decide_eq_true y1
                  have f2 : decide ((x : Int) + 1 < c') = false := decide_eq_false y2
                  have f3 : (z == 1) = false := by simpa using y3
                  have f4 : (z == 2) = false := by simpa using y4
                  clear y1 y2 y3 y4
                  go_wp2_with fail
                  exact ⟨⟨x + 1, by omega, by go_num, by first | trivial | rfl⟩, by simp [intOf]; omega⟩
              · obtain rfl : x = T'.length := by omega
                clear hlt9
                go_wp2_with fail
                go_roundw
                case rel => first | exact ⟨j + 1, T', a', c', by omega, by go_num, HST7.out⟩ | ((repeat apply Exists.intro); exact ⟨⟨j + 1, T', a', c', by omega, by go_num, HST7.out⟩, rfl⟩)
                case measure => simp [intOf]; omega
        · obtain rfl : j = l.length := by omega
          have HB := Lib.hid hst.bel
          obtain ⟨Av, cv, rfl, hcv1, hcv2, hsl⟩ := hst.own.shape eltI
          clear hst hlt hsl
          go_wp2_with fail
          go_ret
          exact ⟨rfl, HB.out⟩
end Go.Proofs.Ythjkdeocdhdkaaa
