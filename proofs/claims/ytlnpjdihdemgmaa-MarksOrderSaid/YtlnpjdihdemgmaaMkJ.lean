/- copyistlaw16.MarksOrder returns true. -/
import Derived.Test.YtlnpjdihdemgmaaMkI
import Derived.Deep.DeepCutAuto
namespace Go.Proofs.Ytlnpjdihdemgmaa
open Go.RowKit
set_option linter.unusedVariables false

set_option maxRecDepth 100000 in
set_option maxHeartbeats 4000000 in
theorem order_some (a0 b0 : Int) (on also : Bool) (bs off cap : Nat) (l : List Act6) (w : World) (hl : l.length ≤ 60) (hcap : l.length ≤ cap) (hcm : cap ≤ maxLen) (hb : bs < w.heap.size)
    (hA : ∀ (i : Nat) (a : Act6), l[i]? = some a → ActAt w bs (off + i * 6) a) :
    Calls Try.prog 6 #[.int .i64 a0, .int .i64 b0, .bool on, .bool also, .slice (some ⟨bs, off, none⟩) l.length cap] w fun e w' => e = .returned (.bool true) ∧ Below w.heap.size w w' := by
  unfold maxLen at hcm
  obtain ⟨p0, p1⟩ := pick_pos a0 1000 (by omega)
  obtain ⟨p2, p3⟩ := pick_pos b0 1000 (by omega)
  have HA := Lib.hid hA
  have HB := Lib.hid hb
  clear hA hb
  have hl' : (l.length : Int) ≤ 60 := by omega
  go_enter Try.func6, Try.ntmps6
  go_wp2_with fail
  refine (lives_true w).mono ?_
  rintro e w1 ⟨rfl, hB1⟩
  go_upto_if 37 with (go_at_call 12; refine (pick_any _ _ _ (by omega) (by omega)).mono ?_; rintro e w' ⟨rfl, rfl⟩)
  go_cut [0, 1] (fun va vb wx => ∃ A B : Int, va = .int .i64 A ∧ vb = .int .i64 B ∧ A ≤ B ∧ 1 ≤ A ∧ B ≤ 1000 ∧ wx = w1)
  case first =>
    by_cases hsw : 1 + pickI b0 1000 < 1 + pickI a0 1000
    · go_wp2
      go_meet
      exact ⟨_, _, rfl, rfl, by omega, by omega, by omega, rfl⟩
    · have hsw' : 1 + pickI a0 1000 ≤ 1 + pickI b0 1000 := by omega
      clear hsw
      go_wp2
      go_meet
      exact ⟨_, _, rfl, rfl, by omega, by omega, by omega, rfl⟩
  case rest =>
   obtain ⟨A, B, rfl, rfl, hAB, hA0, hB0, rfl⟩ := hcut
   clear p0 p1 p2 p3
   go_wp2_with fail
   refine (new_any wc).mono ?_
   rintro e w2 ⟨rfl, h2, hB2, hz2⟩
   have hB := up2 hB1 hB2
   have hle := hB1.size
   clear hB1 hB2 hz2
   have hA1 : placeI A = true := by simp [placeI]; omega
   have hB1 : placeI B = true := by simp [placeI]; omega
   go_wp2_with fail
   refine (add_ok h2 A on hA1 (by simp) (by decide) (by decide)).mono ?_
   rintro e w3 ⟨rfl, h3, ho3⟩
   go_wp2_with fail
   refine (add_ok h3 B also hB1 (by simp) (by decide) (by decide)).mono ?_
   rintro e w4 ⟨rfl, h4, ho4⟩
   have hon := ho3.trans ho4
   clear h2 h3 ho3 ho4 hA1 hB1
   go_wp2_with fail
   go_loopw [0, 1, 2, 3, 12, 14, 16] (fun va vb von valso vp vq vi wr => ∃ (k : Nat) (p q x y : Int) (o1 o2 : Bool), k ≤ l.length ∧ vi = .int .i64 k ∧ va = .int .i64 x ∧ vb = .int .i64 y ∧ von = .bool o1 ∧ valso = .bool o2 ∧ vp = .int .i64 p ∧ vq = .int .i64 q ∧ ((p = 0 ∧ q = 1) ∨ (p = 1 ∧ q = 0)) ∧ x ≤ y ∧ MarksAt wr (wc.heap.size + 1) wc.heap.size (two p x o1 y o2) 2 ∧ Only (Own2 (wc.heap.size + 1) wc.heap.size) w2 wr) (fun _ _ _ _ _ _ vi _ => l.length - (intOf vi).toNat)
   case atStart => exact ⟨0, 0, 1, A, B, on, also, by omega, rfl, rfl, rfl, rfl, rfl, rfl, rfl, .inl ⟨rfl, rfl⟩, hAB, h4, hon⟩
   case round =>
     clear h4 hon hAB
     obtain ⟨k, p, q, x, y, o1, o2, hk, rfl, rfl, rfl, rfl, rfl, rfl, rfl, hpq, hxy, hm, hon⟩ := hrel
     by_cases hlt : k < l.length
     · obtain ⟨act, hact⟩ : ∃ act, l[k]? = some act := ⟨_, List.getElem?_eq_getElem hlt⟩
       have hbs : bs < w.heap.size := HB.out
       have hbk : wr.heap[bs]? = w.heap[bs]? := (Only.fin hB hon (by omega) (by omega)).block bs hbs
       have hcell := (HA.out k act hact).kept hbk
       obtain ⟨k0, k1, k2, k3, k4, k5⟩ := hcell
       have Hact := Lib.hid hact
       clear hact hbk
       obtain ⟨r0, r1⟩ := pick_pos act.kind 8 (by omega)
       obtain ⟨ki, id, at_, tt, nn, on_⟩ := act
       dsimp only at k0 k1 k2 k3 k4 k5 r0 r1
       go_wp2_with (go_at_call 12; refine (pick_any _ _ _ (by omega) (by omega)).mono ?_; rintro e w' ⟨rfl, rfl⟩)
       · go_roundw
         case rel => exact ⟨k + 1, p, q, x, y, o1, o2, by omega, by go_num, rfl, rfl, rfl, rfl, rfl, rfl, hpq, hxy, hm, hon⟩
         case measure => simp [intOf]; omega
       · have h5k : 5 ≤ pickI ki 8 := by omega
         obtain ⟨x', y', hd, hcase⟩ := order_step (on := o1) (also := o2) hpq hxy ⟨ki, id, at_, tt, nn, on_⟩ h5k r1
         dsimp only at hcase
         have HD := Lib.hid hd
         have HC := Lib.hid hcase
         clear hd hcase
         refine (do_any hm ⟨ki, id, at_, tt, nn, on_⟩ (by omega) (by omega)).mono ?_
         rintro e w5 ⟨rfl, h5, ho5⟩
         rw [congrArg DoR.m HD.out, congrArg DoR.n HD.out] at h5
         rw [congrArg DoR.ret HD.out]
         have hc := HC.out
         clear HC HD
         generalize (doR (two p x o1 y o2) 2 ⟨ki, id, at_, tt, nn, on_⟩).err = er at *
         dsimp only at h5
         have hon5 := hon.trans ho5
         have hBw5 := Only.fin hB hon5 (by omega) (by omega)
         have hcell5 := (HA.out k _ Hact.out).kept (hBw5.block bs hbs)
         clear k0 k1 k2 k3 k4 k5 hm ho5 hon
         obtain ⟨lp, lq⟩ := two_p (a := x') (b := y') (on := o1) (also := o2) hpq
         have LP := Lib.hid lp
         have LQ := Lib.hid lq
         clear lp lq
         have HCC := Lib.hid hc
         clear hc
         go_wp2_with fail
         refine (at_yes h5 LP.out).mono ?_
         rintro e w6 ⟨rfl, hb6⟩
         go_wp2_with fail
         refine (at_yes (h5.up hb6) LQ.out).mono ?_
         rintro e w7 ⟨rfl, hb7⟩
         have hb57 := up2 hb6 hb7
         have h7 := h5.up hb57
         have hon7 := hon5.trans (Only.of_below hb57)
         have hc7 := hcell5.kept ((hb57.mono (by have := hBw5.size; omega) : Below w.heap.size w5 w7).block bs hbs)
         clear h5 hb6 hb7 hb57 hon5 hcell5 hBw5
         obtain ⟨k0, k1, k2, k3, k4, k5⟩ := hc7
         dsimp only at k0 k1 k2 k3 k4 k5
         rcases HCC.out with ⟨her, hx1, hx2⟩ | ⟨her, hp7, v1, v2, v3, v4, v5, v6, v7, v8⟩ | ⟨her, hp7, hnov, hle'⟩ | ⟨her, hp7, hle', himp⟩
         · as_aux_lemma =>
           have her' : (er != 0) = true := by simpa using her
           subst hx1 hx2
           clear her
           go_wp2
           go_roundw
           case rel => exact ⟨k + 1, p, q, x', y', o1, o2, by omega, by go_num, rfl, rfl, rfl, rfl, rfl, rfl, hpq, by omega, h7, hon7⟩
           case measure => simp [intOf]; omega
         · as_aux_lemma =>
           subst her v1 v2 v3 v4 v5
           have hwr : wrap64 (x' - y') = nn := by rw [v6]; exact IntWalk.wrap64_in _ (by omega)
           have hbn : (nn != nn) = false := by simp
           by_cases hgt : y' < x'
           · go_wp2_with (go_at_call 12; refine (pick_any _ _ _ (by omega) (by omega)).mono ?_; rintro e w' ⟨rfl, rfl⟩)
             go_roundw
             case rel => exact ⟨k + 1, q, p, y', x', false, true, by omega, by go_num, rfl, rfl, rfl, rfl, rfl, rfl, by omega, by omega, by rw [two_swap (p := q) (q := p) (by omega)]; exact h7, hon7⟩
             case measure => simp [intOf]; omega
           · have hge : x' ≤ y' := by omega
             clear hgt
             go_wp2_with (go_at_call 12; refine (pick_any _ _ _ (by omega) (by omega)).mono ?_; rintro e w' ⟨rfl, rfl⟩)
             go_roundw
             case rel => exact ⟨k + 1, p, q, x', y', true, false, by omega, by go_num, rfl, rfl, rfl, rfl, rfl, rfl, hpq, by omega, h7, hon7⟩
             case measure => simp [intOf]; omega
         · as_aux_lemma =>
           subst her
           have HNO := Lib.hid hnov
           clear hnov
           go_upto_region 25 with (go_at_call 12; refine (pick_any _ _ _ (by omega) (by omega)).mono ?_; rintro e w' ⟨rfl, rfl⟩)
           go_cut [0, 1, 2, 3, 23] (fun va vb vo vo2 v wx => va = .int .i64 x ∧ vb = .int .i64 y ∧ vo = .bool o1 ∧ vo2 = .bool o2 ∧ v = .bool false ∧ wx = w7)
           case first =>
             go_wp2_with (go_at_call 12; refine (pick_any _ _ _ (by omega) (by omega)).mono ?_; rintro e w' ⟨rfl, rfl⟩)
             all_goals go_meet
             all_goals (refine ⟨by simp [*], by simp [*], by simp [*], by simp [*], ?_, rfl⟩)
             all_goals first | rfl | exact absurd (by simp_all) HNO.out | (simp; omega)
           case rest =>
             obtain ⟨rfl, rfl, rfl, rfl, rfl, hwc⟩ := hcut
             subst hwc
             go_wp2_with (go_at_call 12; refine (pick_any _ _ _ (by omega) (by omega)).mono ?_; rintro e w' ⟨rfl, rfl⟩)
             go_roundw
             case rel => exact ⟨k + 1, p, q, x', y', o1, o2, by omega, by go_num, rfl, rfl, rfl, rfl, rfl, rfl, hpq, by omega, h7, hon7⟩
             case measure => simp [intOf]; omega
         · as_aux_lemma =>
           subst her
           have HIM := Lib.hid himp
           clear himp
           go_upto_region 25 with (go_at_call 12; refine (pick_any _ _ _ (by omega) (by omega)).mono ?_; rintro e w' ⟨rfl, rfl⟩)
           go_cut [0, 1, 2, 3, 23] (fun va vb vo vo2 v wx => va = .int .i64 x ∧ vb = .int .i64 y ∧ vo = .bool o1 ∧ vo2 = .bool o2 ∧ v = .bool false ∧ wx = w7)
           case first =>
             go_wp2_with (go_at_call 12; refine (pick_any _ _ _ (by omega) (by omega)).mono ?_; rintro e w' ⟨rfl, rfl⟩)
             all_goals go_meet
             all_goals (refine ⟨by simp [*], by simp [*], by simp [*], by simp [*], ?_, rfl⟩)
             all_goals first | rfl | exact absurd (by simp_all) HNO.out | (simp; omega)
           case rest =>
             obtain ⟨rfl, rfl, rfl, rfl, rfl, hwc⟩ := hcut
             subst hwc
             go_wp2_with (go_at_call 12; refine (pick_any _ _ _ (by omega) (by omega)).mono ?_; rintro e w' ⟨rfl, rfl⟩)
             · have := HIM.out (by omega) (by omega)
               simp at *
               omega
             · have exy : x' = y' := by omega
               subst exy
               go_roundw
               case rel => exact ⟨k + 1, p, q, x', x', o1, o2, by omega, by go_num, rfl, rfl, rfl, rfl, rfl, rfl, hpq, by omega, h7, hon7⟩
               case measure => simp [intOf]; omega
             · have := HIM.out (by omega) (by omega)
               omega
             · go_roundw
               case rel => exact ⟨k + 1, p, q, x', y', o1, o2, by omega, by go_num, rfl, rfl, rfl, rfl, rfl, rfl, hpq, by omega, h7, hon7⟩
               case measure => simp [intOf]; omega
             · go_roundw
               case rel => exact ⟨k + 1, p, q, x', y', o1, o2, by omega, by go_num, rfl, rfl, rfl, rfl, rfl, rfl, hpq, by omega, h7, hon7⟩
               case measure => simp [intOf]; omega
     · have hk' : k = l.length := by omega
       go_wp2
       go_ret
       exact ⟨rfl, Only.fin hB hon (by omega) (by omega)⟩

set_option maxRecDepth 100000 in
set_option maxHeartbeats 2000000 in
theorem order_nil (a0 b0 : Int) (on also : Bool) (sa : Option Addr) (cap : Nat) (w : World) :
    Calls Try.prog 6 #[.int .i64 a0, .int .i64 b0, .bool on, .bool also, .slice sa 0 cap] w fun e w' => e = .returned (.bool true) ∧ Below w.heap.size w w' := by
  obtain ⟨p0, p1⟩ := pick_pos a0 1000 (by omega)
  obtain ⟨p2, p3⟩ := pick_pos b0 1000 (by omega)
  go_enter Try.func6, Try.ntmps6
  go_wp2_with fail
  refine (lives_true w).mono ?_
  rintro e w1 ⟨rfl, hB1⟩
  go_upto_if 37 with (go_at_call 12; refine (pick_any _ _ _ (by omega) (by omega)).mono ?_; rintro e w' ⟨rfl, rfl⟩)
  go_cut [0, 1] (fun va vb wx => ∃ A B : Int, va = .int .i64 A ∧ vb = .int .i64 B ∧ A ≤ B ∧ 1 ≤ A ∧ B ≤ 1000 ∧ wx = w1)
  case first =>
    by_cases hsw : 1 + pickI b0 1000 < 1 + pickI a0 1000
    · go_wp2
      go_meet
      exact ⟨_, _, rfl, rfl, by omega, by omega, by omega, rfl⟩
    · have hsw' : 1 + pickI a0 1000 ≤ 1 + pickI b0 1000 := by omega
      clear hsw
      go_wp2
      go_meet
      exact ⟨_, _, rfl, rfl, by omega, by omega, by omega, rfl⟩
  case rest =>
   obtain ⟨A, B, rfl, rfl, hAB, hA0, hB0, rfl⟩ := hcut
   clear p0 p1 p2 p3
   go_wp2_with fail
   refine (new_any wc).mono ?_
   rintro e w2 ⟨rfl, h2, hB2, hz2⟩
   have hB := up2 hB1 hB2
   have hle := hB1.size
   clear hB1 hB2 hz2
   have hA1 : placeI A = true := by simp [placeI]; omega
   have hB1 : placeI B = true := by simp [placeI]; omega
   go_wp2_with fail
   refine (add_ok h2 A on hA1 (by simp) (by decide) (by decide)).mono ?_
   rintro e w3 ⟨rfl, h3, ho3⟩
   go_wp2_with fail
   refine (add_ok h3 B also hB1 (by simp) (by decide) (by decide)).mono ?_
   rintro e w4 ⟨rfl, h4, ho4⟩
   have hon := ho3.trans ho4
   clear h2 h3 ho3 ho4 hA1 hB1
   go_wp2_with fail
   go_loopw [16] (fun vi wr => vi = .int .i64 0 ∧ wr = w4) (fun _ _ => 0)
   case atStart => exact ⟨rfl, rfl⟩
   case round =>
     obtain ⟨rfl, rfl⟩ := hrel
     go_wp2
     go_ret
     exact ⟨rfl, Only.fin hB hon (by omega) (by omega)⟩
end Go.Proofs.Ytlnpjdihdemgmaa
