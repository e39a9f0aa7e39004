import Derived.Test.YtphdkcdkhklicaaGreatDoorZ18
import Derived.Test.YtphdkcdkhklicaaGreatDoorZ20
/- ColumnIndents: the walk. -/
namespace Go.Proofs.YtphdkcdkhklicaaGreatDoor
open Go.RowKit Go.Lib
set_option linter.unusedVariables false
set_option linter.unusedSimpArgs false
section
variable {w w' : World}
set_option maxRecDepth 100000 in
set_option maxHeartbeats 16000000 in
theorem indents_true {N : Nat} (hT : Tabs N w) (hR : Rules N w) (hN : N ≤ w.heap.size) (s : ByteArray) (av cv tv : Int) (tabs : Bool) :
    Calls Tryz.prog 5 #[.string s, .int .i64 av, .int .i64 cv, .int .i64 tv, .bool tabs] w fun r w' => r = .returned (.bool true) ∧ Below w.heap.size w w' := by
  have HT := Lib.hid hT
  have HR := Lib.hid hR
  have HN := Lib.hid hN
  clear hT hR hN
  go_enter Tryz.func5, Tryz.ntmps5
  go_wp2_with fail
  refine (lives_true HT.out HR.out HN.out).mono ?_
  rintro e w1 ⟨rfl, hb1⟩
  have B1 := Lib.hid hb1
  clear hb1
  go_wp2_with fail
  refine (light_ok s w1).mono ?_
  rintro e w2 ⟨rfl, hb2⟩
  have B2 := Lib.hid (up2 B1.out hb2)
  clear hb2 B1
  cases hli : lightB s with
  | false =>
    go_wp2_with fail
    go_ret
    exact ⟨rfl, B2.out⟩
  | true =>
    unfold lightB at hli
    simp only [Bool.and_eq_true, decide_eq_true_eq] at hli
    obtain ⟨hsz, hv⟩ := hli
    rw [vld_chars] at hv
    have hlen := chrs_len s
    have HS := Lib.hid (⟨hsz, hv, hlen⟩ : _ ∧ _ ∧ _)
    clear hsz hv hlen
    have hof := ofX_ok (HT.out.up B2.out) (HR.out.up B2.out) (Nat.le_trans HN.out B2.out.size) s (by have := HS.out.1; omega) HS.out.2.1
    have HOF := Lib.hid hof
    clear hof
    go_wp2_with fail
    refine HOF.out.mono ?_
    rintro e w3 ⟨b, T, rfl, hb3, hp3, hT3⟩
    have S3 := Lib.hid (show St N w w.heap.size b w3 T 5 from ⟨up2 B2.out hb3, hp3.mono (fun k hk => Nat.le_trans B2.out.size hk.1) (Nat.le_refl _), (up2 B2.out hb3).size⟩)
    have O3 := Lib.hid hT3
    clear hb3 hp3 hT3 HOF B2
    obtain ⟨n, hn⟩ : ∃ n, n = T.cs.length := ⟨_, rfl⟩
    have hn1 : n ≤ 120 := by rw [hn, O3.out.cs]; have := HS.out; omega
    have HNn := Lib.hid hn
    have hsi := bsize S3.out.pb.r
    rw [← hn] at hsi
    have HSI := Lib.hid hsi
    clear hsi hn
    obtain ⟨q1, q2⟩ := pick_pos av ((n : Int) + 1) (by omega)
    obtain ⟨q3, q4⟩ := pick_pos cv 100 (by omega)
    obtain ⟨q5, q6⟩ := pick_pos tv 64 (by omega)
    have k1 := fun w => pick_any av ((n : Int) + 1) w (by omega) (by omega)
    have k2 := fun w => pick_any cv 100 w (by omega) (by omega)
    have k3 := fun w => pick_any tv 64 w (by omega) (by omega)
    generalize pickI av ((n : Int) + 1) = p1 at *
    generalize pickI cv 100 = C at *
    generalize pickI tv 64 = p3 at *
    obtain ⟨A, hA⟩ : ∃ x : Int, x = 1 + p1 := ⟨_, rfl⟩
    obtain ⟨Tb, hTb⟩ : ∃ x : Int, x = 1 + p3 := ⟨_, rfl⟩
    have s0 : IntKind.i64.wrap ((n : Int) + 1) = (n : Int) + 1 := IntWalk.i64_in _ (by omega)
    have s3 : IntKind.i64.wrap (1 + p1) = A := by rw [hA]; exact IntWalk.i64_in _ (by omega)
    have s4 : IntKind.i64.wrap (1 + p3) = Tb := by rw [hTb]; exact IntWalk.i64_in _ (by omega)
    obtain ⟨k, hk⟩ : ∃ k : Nat, A = (k : Int) := ⟨A.toNat, by omega⟩
    obtain ⟨tab, htb⟩ : ∃ k : Nat, Tb = (k : Int) := ⟨Tb.toNat, by omega⟩
    obtain ⟨col, hcl⟩ : ∃ k : Nat, C = (k : Int) := ⟨C.toNat, by omega⟩
    subst hk htb hcl
    have hk1 : 1 ≤ k := by omega
    have hk2 : k ≤ n + 1 := by omega
    have ht1 : 1 ≤ tab := by omega
    have ht2 : tab ≤ 64 := by omega
    have hc : col ≤ 1000 := by omega
    have HK := Lib.hid (⟨hk1, hk2, ht1, ht2, hc, hn1⟩ : _ ∧ _ ∧ _ ∧ _ ∧ _ ∧ _)
    have K1 := Lib.hid k1
    have K2 := Lib.hid k2
    have K3 := Lib.hid k3
    have hil := ind_law O3.out.wide O3.out.empty O3.out.o S3.out.pb.cn (by rw [← HNn.out]; omega) (k := k) (col := col) (tab := tab) tabs hk1 (by rw [← HNn.out]; exact hk2) hc ht1
    obtain ⟨x, y, z, hd, ld, tl, tx, T2, hL⟩ := hil
    have HL := Lib.hid hL
    clear hA hTb hk1 hk2 ht1 ht2 hc hn1 k1 k2 k3 hL q1 q2 q3 q4 q5 q6
    go_wp2_with fail
    refine HSI.out.mono ?_
    rintro e w4 ⟨rfl, hb4⟩
    have S4 := Lib.hid (S3.out.up hb4)
    clear hb4 HSI S3
    go_wp2_with fail
    refine (K1.out w4).mono ?_
    rintro e w5 ⟨rfl, rfl⟩
    go_wp2_with fail
    refine (K2.out w4).mono ?_
    rintro e w5 ⟨rfl, rfl⟩
    go_wp2_with fail
    refine (K3.out w4).mono ?_
    rintro e w5 ⟨rfl, rfl⟩
    clear K1 K2 K3
    go_wp2_with fail
    have hlo : T.S.lo ≤ k := by rw [O3.out.wide.lo]; exact HK.out.1
    have hhi : k ≤ T.S.hi := by rw [O3.out.wide.hi, ← HNn.out]; exact HK.out.2.1
    have HLH := Lib.hid (⟨hlo, hhi⟩ : _ ∧ _)
    clear hlo hhi
    have hbg := begin_ok S4.out.pb.r k HLH.out.1 HLH.out.2
    rw [HL.out.hx] at hbg
    refine hbg.mono ?_
    rintro e w5 ⟨rfl, hb5⟩
    have S5 := Lib.hid (S4.out.up hb5)
    clear hb5 hbg S4
    go_wp2_with fail
    have hig := Indent_ok S5.out.pb.r k tab HK.out.2.2.1 HK.out.2.2.2.1 HLH.out.1 HLH.out.2
    rw [HL.out.hy] at hig
    obtain ⟨cl, hcl⟩ : ∃ cl, cl = colN widN T.cs tab (lineB T.cs T.S.lo y) y := ⟨_, rfl⟩
    rw [← hcl] at hig
    clear hcl
    refine hig.mono ?_
    rintro e w6 ⟨rfl, hb6⟩
    have S6 := Lib.hid (S5.out.up hb6)
    clear hb6 hig S5
    go_wp2_with fail
    have ht := pText S6.out.pb (1 : Int) (x : Int)
    rw [HL.out.hhd, HL.out.ehd] at ht
    refine ht.mono ?_
    rintro e w7 ⟨rfl, hb7⟩
    have S7 := Lib.hid (S6.out.up hb7)
    clear hb7 ht S6
    go_wp2_with fail
    have ht := pText S7.out.pb (x : Int) (y : Int)
    rw [HL.out.hld, HL.out.eld] at ht
    refine ht.mono ?_
    rintro e w8 ⟨rfl, hb8⟩
    have S8 := Lib.hid (S7.out.up hb8)
    clear hb8 ht S7
    have hsi := bsize S8.out.pb.r
    rw [← HNn.out] at hsi
    have HSI := Lib.hid hsi
    clear hsi
    go_wp2_with fail
    refine HSI.out.mono ?_
    rintro e w9 ⟨rfl, hb9⟩
    have S9 := Lib.hid (S8.out.up hb9)
    clear hb9 HSI S8
    go_wp2_with fail
    have ht := pText S9.out.pb (y : Int) ((n : Int) + 1)
    have e1 := HL.out.htl
    have e2 := HL.out.etl
    rw [← HNn.out] at e1 e2
    rw [e1, e2] at ht
    clear e1 e2
    refine ht.mono ?_
    rintro e w10 ⟨rfl, hb10⟩
    have S10 := Lib.hid (S9.out.up hb10)
    clear hb10 ht S9
    have z2 := HL.out.z2
    go_wp2_with fail
    go_loop [24] (fun va => ∃ i : Nat, i ≤ ld.size ∧ va = .int .i64 i) (fun va => ld.size + 1 - (intOf va).toNat)
    case atStart => exact ⟨0, by omega, rfl⟩
    case round =>
      obtain ⟨i, hi, rfl⟩ := hrel
      by_cases hlt : i < ld.size
      · have s1 : IntKind.i64.wrap ((i : Int) + 1) = ((i + 1 : Nat) : Int) := by rw [IntWalk.i64_in _ (by omega)]; omega
        rcases HL.out.bl i hlt with hb | hb
        all_goals
          go_wp2_with fail
          go_round
          case rel => exact ⟨i + 1, by omega, by first | rfl | go_num⟩
          case measure => simp [intOf]; omega
      · clear hi
        rcases HL.out.tb with htl | ⟨qt, ht1, ht2⟩
        · subst htl
          have e0 : ((⟨#[]⟩ : ByteArray).toList == (⟨#[]⟩ : ByteArray).toList) = true := by simp
          go_wp2_with fail
          clear e0
          have hit := itext_ok col tab tabs HK.out.2.2.2.2.1 HK.out.2.2.1 HK.out.2.2.2.1 w10
          rw [HL.out.htx] at hit
          refine hit.mono ?_
          rintro e w11 ⟨rfl, hb11⟩
          have S11 := Lib.hid (S10.out.up hb11)
          clear hb11 hit S10 z2 hlt
          go_wp2_with fail
          have hsg := SetIndent_ok (S11.out.tabs HN.out (Nat.le_refl _) HT.out) (S11.out.rules HN.out (Nat.le_refl _) HR.out) S11.out.pb (fun k hk => Nat.le_trans HN.out hk) (by omega) O3.out.wide.ro (by rw [← HNn.out]; have := HK.out; omega) k col tab tabs HK.out.2.2.2.2.1 HK.out.2.2.1 HK.out.2.2.2.1 HLH.out.1 HLH.out.2
          rw [HL.out.ht2, ← HNn.out] at hsg
          refine hsg.mono ?_
          rintro e w12 ⟨rfl, h1, h2⟩
          have S12 := Lib.hid (S11.out.next ⟨h1, h2⟩)
          clear h1 h2 hsg S11
          have HX := Lib.hid (show T2.S.lo ≤ x ∧ x ≤ T2.S.hi by rw [HL.out.w2.lo, HL.out.w2.hi]; have := HL.out.x1; have := HL.out.xz; have := HL.out.zn; omega)
          go_wp2_with fail
          have hig := Indent_ok S12.out.pb.r x tab HK.out.2.2.1 HK.out.2.2.2.1 HX.out.1 HX.out.2
          rw [HL.out.hx2, HL.out.hz2, HL.out.hz3, HL.out.hcol] at hig
          refine hig.mono ?_
          rintro e w13 ⟨rfl, hb13⟩
          have S13 := Lib.hid (S12.out.up hb13)
          clear hb13 hig S12
          go_wp2_with fail
          refine (ptick S13.out.pb).mono ?_
          rintro e w14 ⟨rfl, rfl⟩
          obtain ⟨a1, ha1⟩ : ∃ a1, hd ++ tx = a1 := ⟨_, rfl⟩
          obtain ⟨a2, ha2⟩ : ∃ a2, a1 ++ (⟨#[]⟩ : ByteArray) = a2 := ⟨_, rfl⟩
          have hal := pAll S13.out.pb
          rw [HL.out.all, ha1, ha2] at hal
          have y1 : hd.size + tx.size ≤ 9223372036854775807 := by have := HL.out.z1; have := HL.out.z4; omega
          have y2 : a1.size + (⟨#[]⟩ : ByteArray).size ≤ 9223372036854775807 := by rw [← ha1, ByteArray.size_append]; have := HL.out.z1; have := HL.out.z4; have := HL.out.z3; omega
          have e5 : (a2.toList == a2.toList) = true := by simp
          have HAL := Lib.hid hal
          clear hal
          go_wp2_with fail
          refine HAL.out.mono ?_
          rintro e w15 ⟨rfl, hb15⟩
          have S15 := Lib.hid (S13.out.up hb15)
          clear hb15 HAL S13
          have hln := rlen_any tx w15 (by have := HL.out.z4; omega)
          have s6 : IntKind.i64.wrap ((x : Int) + (lenR tx : Int)) = (z : Int) := by rw [IntWalk.i64_in _ (by have := HL.out.len; have := HL.out.zn; have := HL.out.l2; omega)]; have := HL.out.len; omega
          have HLN := Lib.hid hln
          clear hln
          generalize lenR tx = lx at *
          go_wp2_with fail
          refine HLN.out.mono ?_
          rintro e w16 ⟨rfl, hb16⟩
          have S16 := Lib.hid (S15.out.up hb16)
          clear hb16 HLN S15
          go_wp2_with fail
          clear ha1 ha2 y1 y2 e5 s6
          have hsg := SetIndent_ok (S16.out.tabs HN.out (Nat.le_refl _) HT.out) (S16.out.rules HN.out (Nat.le_refl _) HR.out) S16.out.pb (fun k hk => Nat.le_trans HN.out hk) (by have := HK.out; omega) HL.out.w2.ro (by have := HL.out.l2; omega) x col tab tabs HK.out.2.2.2.2.1 HK.out.2.2.1 HK.out.2.2.2.1 HX.out.1 HX.out.2
          rw [HL.out.same] at hsg
          refine hsg.mono ?_
          rintro e w17 ⟨rfl, h1, h2⟩
          have S17 := Lib.hid (S16.out.next ⟨h1, h2⟩)
          clear h1 h2 hsg S16
          go_wp2_with fail
          refine (ptick S17.out.pb).mono ?_
          rintro e w18 ⟨rfl, rfl⟩
          have HFIN := Lib.hid (fun (cond : ¬ ld = tx) => (HL.out.un.resolve_left cond).2)
          cases tabs with
          | true =>
            by_cases heq : ld = tx
            · have e7 : (ld.toList == tx.toList) = true := by rw [heq]; simp
              have e9 : (ld.toList = tx.toList) = True := eq_true (by rw [heq])
              clear heq
              go_wp2_with fail
              go_ret
              exact ⟨rfl, S17.out.bl⟩
            · have e7 := str_ne1 heq
              have e9 : (ld.toList = tx.toList) = False := eq_false (beq_eq_false_iff_ne.1 e7)
              obtain ⟨g, hg, hbk⟩ := HFIN.out heq
              have hud := undo_back S17.out HN.out (Nat.le_refl _) HT.out HR.out (by have := HK.out; have := HL.out.l2; omega) hg (fun q hq => Nat.le_trans (O3.out.g q hq) (by omega)) (by have := hbk.len; omega) (by rw [HL.out.ch]; exact O3.out.ch) HL.out.w2.ro hbk.ok hbk.eq (by have := hbk.cost; omega)
              have HUD := Lib.hid hud
              have e8 : (s.toList == s.toList) = true := by simp
              clear hud hg hbk heq
              go_wp2_with fail
              refine HUD.out.mono ?_
              rintro e w19 ⟨rfl, T3, h3, hS⟩
              have S19 := Lib.hid hS
              have hal := pAll S19.out.pb
              rw [h3, O3.out.cs, encS_chrs HS.out.2.1] at hal
              have HAL := Lib.hid hal
              clear hal h3 hS HUD
              go_wp2_with fail
              refine HAL.out.mono ?_
              rintro e w20 ⟨rfl, hb20⟩
              have S20 := Lib.hid (S19.out.up hb20)
              clear hb20 HAL S19
              go_wp2_with fail
              go_ret
              exact ⟨rfl, S20.out.bl⟩
          | false =>
            have z4 := HL.out.z4
            have HSP := Lib.hid (HL.out.sp rfl)
            go_wp2_with fail
            go_loop [32] (fun va => ∃ i : Nat, i ≤ tx.size ∧ va = .int .i64 i) (fun va => tx.size + 1 - (intOf va).toNat)
            case atStart => exact ⟨0, by omega, rfl⟩
            case round =>
              obtain ⟨j, hj, rfl⟩ := hrel
              by_cases hlt : j < tx.size
              · have s1 : IntKind.i64.wrap ((j : Int) + 1) = ((j + 1 : Nat) : Int) := by rw [IntWalk.i64_in _ (by omega)]; omega
                have hb := HSP.out j hlt
                go_wp2_with fail
                go_round
                case rel => exact ⟨j + 1, by omega, by first | rfl | go_num⟩
                case measure => simp [intOf]; omega
              · clear hj z4
                by_cases heq : ld = tx
                · have e7 : (ld.toList == tx.toList) = true := by rw [heq]; simp
                  have e9 : (ld.toList = tx.toList) = True := eq_true (by rw [heq])
                  clear heq
                  go_wp2_with fail
                  go_ret
                  exact ⟨rfl, S17.out.bl⟩
                · have e7 := str_ne1 heq
                  have e9 : (ld.toList = tx.toList) = False := eq_false (beq_eq_false_iff_ne.1 e7)
                  obtain ⟨g, hg, hbk⟩ := HFIN.out heq
                  have hud := undo_back S17.out HN.out (Nat.le_refl _) HT.out HR.out (by have := HK.out; have := HL.out.l2; omega) hg (fun q hq => Nat.le_trans (O3.out.g q hq) (by omega)) (by have := hbk.len; omega) (by rw [HL.out.ch]; exact O3.out.ch) HL.out.w2.ro hbk.ok hbk.eq (by have := hbk.cost; omega)
                  have HUD := Lib.hid hud
                  have e8 : (s.toList == s.toList) = true := by simp
                  clear hud hg hbk heq
                  go_wp2_with fail
                  refine HUD.out.mono ?_
                  rintro e w19 ⟨rfl, T3, h3, hS⟩
                  have S19 := Lib.hid hS
                  have hal := pAll S19.out.pb
                  rw [h3, O3.out.cs, encS_chrs HS.out.2.1] at hal
                  have HAL := Lib.hid hal
                  clear hal h3 hS HUD
                  go_wp2_with fail
                  refine HAL.out.mono ?_
                  rintro e w20 ⟨rfl, hb20⟩
                  have S20 := Lib.hid (S19.out.up hb20)
                  clear hb20 HAL S19
                  go_wp2_with fail
                  go_ret
                  exact ⟨rfl, S20.out.bl⟩
        · have e0 : (tl.toList == (⟨#[]⟩ : ByteArray).toList) = false := str_ne1 (fun e => by rw [e] at qt; exact absurd qt (by decide))
          have e3 : (tl.toList = []) = False := eq_false (fun e => by
            rw [ByteArray.toList_eq] at e
            have h5 : tl.data.toList.length = 0 := by rw [e]; rfl
            rw [size_len] at h5; omega)
          have e1 : ((tl[0].toNat : Int) == 32) = false := by rw [beq_eq_false_iff_ne]; exact ht1
          have e2 : ((tl[0].toNat : Int) == 9) = false := by rw [beq_eq_false_iff_ne]; exact ht2
          go_wp2_with fail
          clear e0 e1 e2 e3 ht1 ht2
          have hit := itext_ok col tab tabs HK.out.2.2.2.2.1 HK.out.2.2.1 HK.out.2.2.2.1 w10
          rw [HL.out.htx] at hit
          refine hit.mono ?_
          rintro e w11 ⟨rfl, hb11⟩
          have S11 := Lib.hid (S10.out.up hb11)
          clear hb11 hit S10 z2 hlt
          go_wp2_with fail
          have hsg := SetIndent_ok (S11.out.tabs HN.out (Nat.le_refl _) HT.out) (S11.out.rules HN.out (Nat.le_refl _) HR.out) S11.out.pb (fun k hk => Nat.le_trans HN.out hk) (by omega) O3.out.wide.ro (by rw [← HNn.out]; have := HK.out; omega) k col tab tabs HK.out.2.2.2.2.1 HK.out.2.2.1 HK.out.2.2.2.1 HLH.out.1 HLH.out.2
          rw [HL.out.ht2, ← HNn.out] at hsg
          refine hsg.mono ?_
          rintro e w12 ⟨rfl, h1, h2⟩
          have S12 := Lib.hid (S11.out.next ⟨h1, h2⟩)
          clear h1 h2 hsg S11
          have HX := Lib.hid (show T2.S.lo ≤ x ∧ x ≤ T2.S.hi by rw [HL.out.w2.lo, HL.out.w2.hi]; have := HL.out.x1; have := HL.out.xz; have := HL.out.zn; omega)
          go_wp2_with fail
          have hig := Indent_ok S12.out.pb.r x tab HK.out.2.2.1 HK.out.2.2.2.1 HX.out.1 HX.out.2
          rw [HL.out.hx2, HL.out.hz2, HL.out.hz3, HL.out.hcol] at hig
          refine hig.mono ?_
          rintro e w13 ⟨rfl, hb13⟩
          have S13 := Lib.hid (S12.out.up hb13)
          clear hb13 hig S12
          go_wp2_with fail
          refine (ptick S13.out.pb).mono ?_
          rintro e w14 ⟨rfl, rfl⟩
          obtain ⟨a1, ha1⟩ : ∃ a1, hd ++ tx = a1 := ⟨_, rfl⟩
          obtain ⟨a2, ha2⟩ : ∃ a2, a1 ++ tl = a2 := ⟨_, rfl⟩
          have hal := pAll S13.out.pb
          rw [HL.out.all, ha1, ha2] at hal
          have y1 : hd.size + tx.size ≤ 9223372036854775807 := by have := HL.out.z1; have := HL.out.z4; omega
          have y2 : a1.size + tl.size ≤ 9223372036854775807 := by rw [← ha1, ByteArray.size_append]; have := HL.out.z1; have := HL.out.z4; have := HL.out.z3; omega
          have e5 : (a2.toList == a2.toList) = true := by simp
          have HAL := Lib.hid hal
          clear hal
          go_wp2_with fail
          refine HAL.out.mono ?_
          rintro e w15 ⟨rfl, hb15⟩
          have S15 := Lib.hid (S13.out.up hb15)
          clear hb15 HAL S13
          have hln := rlen_any tx w15 (by have := HL.out.z4; omega)
          have s6 : IntKind.i64.wrap ((x : Int) + (lenR tx : Int)) = (z : Int) := by rw [IntWalk.i64_in _ (by have := HL.out.len; have := HL.out.zn; have := HL.out.l2; omega)]; have := HL.out.len; omega
          have HLN := Lib.hid hln
          clear hln
          generalize lenR tx = lx at *
          go_wp2_with fail
          refine HLN.out.mono ?_
          rintro e w16 ⟨rfl, hb16⟩
          have S16 := Lib.hid (S15.out.up hb16)
          clear hb16 HLN S15
          go_wp2_with fail
          clear ha1 ha2 y1 y2 e5 s6
          have hsg := SetIndent_ok (S16.out.tabs HN.out (Nat.le_refl _) HT.out) (S16.out.rules HN.out (Nat.le_refl _) HR.out) S16.out.pb (fun k hk => Nat.le_trans HN.out hk) (by have := HK.out; omega) HL.out.w2.ro (by have := HL.out.l2; omega) x col tab tabs HK.out.2.2.2.2.1 HK.out.2.2.1 HK.out.2.2.2.1 HX.out.1 HX.out.2
          rw [HL.out.same] at hsg
          refine hsg.mono ?_
          rintro e w17 ⟨rfl, h1, h2⟩
          have S17 := Lib.hid (S16.out.next ⟨h1, h2⟩)
          clear h1 h2 hsg S16
          go_wp2_with fail
          refine (ptick S17.out.pb).mono ?_
          rintro e w18 ⟨rfl, rfl⟩
          have HFIN := Lib.hid (fun (cond : ¬ ld = tx) => (HL.out.un.resolve_left cond).2)
          cases tabs with
          | true =>
            by_cases heq : ld = tx
            · have e7 : (ld.toList == tx.toList) = true := by rw [heq]; simp
              have e9 : (ld.toList = tx.toList) = True := eq_true (by rw [heq])
              clear heq
              go_wp2_with fail
              go_ret
              exact ⟨rfl, S17.out.bl⟩
            · have e7 := str_ne1 heq
              have e9 : (ld.toList = tx.toList) = False := eq_false (beq_eq_false_iff_ne.1 e7)
              obtain ⟨g, hg, hbk⟩ := HFIN.out heq
              have hud := undo_back S17.out HN.out (Nat.le_refl _) HT.out HR.out (by have := HK.out; have := HL.out.l2; omega) hg (fun q hq => Nat.le_trans (O3.out.g q hq) (by omega)) (by have := hbk.len; omega) (by rw [HL.out.ch]; exact O3.out.ch) HL.out.w2.ro hbk.ok hbk.eq (by have := hbk.cost; omega)
              have HUD := Lib.hid hud
              have e8 : (s.toList == s.toList) = true := by simp
              clear hud hg hbk heq
              go_wp2_with fail
              refine HUD.out.mono ?_
              rintro e w19 ⟨rfl, T3, h3, hS⟩
              have S19 := Lib.hid hS
              have hal := pAll S19.out.pb
              rw [h3, O3.out.cs, encS_chrs HS.out.2.1] at hal
              have HAL := Lib.hid hal
              clear hal h3 hS HUD
              go_wp2_with fail
              refine HAL.out.mono ?_
              rintro e w20 ⟨rfl, hb20⟩
              have S20 := Lib.hid (S19.out.up hb20)
              clear hb20 HAL S19
              go_wp2_with fail
              go_ret
              exact ⟨rfl, S20.out.bl⟩
          | false =>
            have z4 := HL.out.z4
            have HSP := Lib.hid (HL.out.sp rfl)
            go_wp2_with fail
            go_loop [32] (fun va => ∃ i : Nat, i ≤ tx.size ∧ va = .int .i64 i) (fun va => tx.size + 1 - (intOf va).toNat)
            case atStart => exact ⟨0, by omega, rfl⟩
            case round =>
              obtain ⟨j, hj, rfl⟩ := hrel
              by_cases hlt : j < tx.size
              · have s1 : IntKind.i64.wrap ((j : Int) + 1) = ((j + 1 : Nat) : Int) := by rw [IntWalk.i64_in _ (by omega)]; omega
                have hb := HSP.out j hlt
                go_wp2_with fail
                go_round
                case rel => exact ⟨j + 1, by omega, by first | rfl | go_num⟩
                case measure => simp [intOf]; omega
              · clear hj z4
                by_cases heq : ld = tx
                · have e7 : (ld.toList == tx.toList) = true := by rw [heq]; simp
                  have e9 : (ld.toList = tx.toList) = True := eq_true (by rw [heq])
                  clear heq
                  go_wp2_with fail
                  go_ret
                  exact ⟨rfl, S17.out.bl⟩
                · have e7 := str_ne1 heq
                  have e9 : (ld.toList = tx.toList) = False := eq_false (beq_eq_false_iff_ne.1 e7)
                  obtain ⟨g, hg, hbk⟩ := HFIN.out heq
                  have hud := undo_back S17.out HN.out (Nat.le_refl _) HT.out HR.out (by have := HK.out; have := HL.out.l2; omega) hg (fun q hq => Nat.le_trans (O3.out.g q hq) (by omega)) (by have := hbk.len; omega) (by rw [HL.out.ch]; exact O3.out.ch) HL.out.w2.ro hbk.ok hbk.eq (by have := hbk.cost; omega)
                  have HUD := Lib.hid hud
                  have e8 : (s.toList == s.toList) = true := by simp
                  clear hud hg hbk heq
                  go_wp2_with fail
                  refine HUD.out.mono ?_
                  rintro e w19 ⟨rfl, T3, h3, hS⟩
                  have S19 := Lib.hid hS
                  have hal := pAll S19.out.pb
                  rw [h3, O3.out.cs, encS_chrs HS.out.2.1] at hal
                  have HAL := Lib.hid hal
                  clear hal h3 hS HUD
                  go_wp2_with fail
                  refine HAL.out.mono ?_
                  rintro e w20 ⟨rfl, hb20⟩
                  have S20 := Lib.hid (S19.out.up hb20)
                  clear hb20 HAL S19
                  go_wp2_with fail
                  go_ret
                  exact ⟨rfl, S20.out.bl⟩
end
end Go.Proofs.YtphdkcdkhklicaaGreatDoor
