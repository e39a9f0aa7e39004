/- ColumnFills: the walk. -/
import Derived.Test.YtphdkcdkhklicaaGreatDoorCfT
import Derived.Test.YtphdkcdkhklicaaGreatDoorCfN
import Derived.Test.YtphdkcdkhklicaaGreatDoorZ20
namespace Go.Proofs.YtphdkcdkhklicaaGreatDoor
open Go.RowKit Go.Lib
set_option linter.unusedVariables false
set_option linter.unusedSimpArgs false
section
variable {w w' : World}
set_option maxRecDepth 100000 in
set_option maxHeartbeats 16000000 in
theorem fills_true {N : Nat} (hT : Tabs N w) (hR : Rules N w) (hN : N ≤ w.heap.size) (s : ByteArray) (wv tv : Int) :
    Calls Tryz.prog 4 #[.string s, .int .i64 wv, .int .i64 tv] w fun r w' => r = .returned (.bool true) ∧ Below w.heap.size w w' := by
  have HT := Lib.hid hT
  have HR := Lib.hid hR
  have HN := Lib.hid hN
  clear hT hR hN
  go_enter Tryz.func4, Tryz.ntmps4
  go_wp2_with fail
  refine (lives_true HT.out HR.out HN.out).mono ?_
  rintro e w1 ⟨rfl, hb1⟩
  have B1 := Lib.hid hb1
  clear hb1
  go_wp2_with fail
  refine (light_ok s w1).mono ?_
  rintro e w2 ⟨rfl, hb2⟩
  have B2 := Lib.hid (up2 B1.out hb2)
  clear hb2 B1
  cases hli : lightB s with
  | false =>
    go_wp2_with fail
    go_ret
    exact ⟨rfl, B2.out⟩
  | true =>
    unfold lightB at hli
    simp only [Bool.and_eq_true, decide_eq_true_eq] at hli
    obtain ⟨hsz, hv⟩ := hli
    rw [vld_chars] at hv
    obtain ⟨cs, hcs⟩ := Option.isSome_iff_exists.1 hv
    have hch : chrs s = cs := by unfold chrs; rw [hcs]; rfl
    have ec := enc_chars _ _ _ (Nat.le_refl _) hcs
    obtain ⟨q1, q2⟩ := pick_pos wv 60 (by omega)
    obtain ⟨q3, q4⟩ := pick_pos tv 64 (by omega)
    have K1 := Lib.hid (fun w => pick_any wv 60 w (by omega) (by omega))
    have K2 := Lib.hid (fun w => pick_any tv 64 w (by omega) (by omega))
    generalize pickI wv 60 = p1 at *
    generalize pickI tv 64 = p2 at *
    obtain ⟨most, hmo⟩ : ∃ k : Nat, 1 + p1 = (k : Int) := ⟨(1 + p1).toNat, by omega⟩
    obtain ⟨tab, htb⟩ : ∃ k : Nat, 1 + p2 = (k : Int) := ⟨(1 + p2).toNat, by omega⟩
    have s1 : IntKind.i64.wrap (1 + p1) = (most : Int) := by rw [hmo]; exact IntWalk.i64_in _ (by omega)
    have s2 : IntKind.i64.wrap (1 + p2) = (tab : Int) := by rw [htb]; exact IntWalk.i64_in _ (by omega)
    have HM := Lib.hid (show 1 ≤ most ∧ most ≤ 1000 by omega)
    have HTAB := Lib.hid (show 1 ≤ tab ∧ tab ≤ 64 by omega)
    obtain ⟨X, hX⟩ : ∃ X, X = fillT widN most tab cs := ⟨_, rfl⟩
    obtain ⟨x, hx⟩ : ∃ x, x = encS X := ⟨_, rfl⟩
    have hXN : ∀ c ∈ X, isN c := by rw [hX]; exact fillT_isN widN most tab ec.2
    have hxs : x.size ≤ 3810 := by
      have h1 := fillT_size widN most tab cs ec.2
      rw [← hX, ← encS_len, ← hx, ec.1, size_len] at h1
      have h2 := capN_mono hsz
      have h3 : capN 120 = 15240 := rfl
      omega
    have hXl : X.length ≤ 3810 := by
      have := encL_ge X hXN
      rw [← encS_len, ← hx] at this
      omega
    have hchx := chrs_encS hXN
    rw [← hx] at hchx
    have hcsx : charsD x.data.toList = some X := by rw [hx, encS_list]; exact chars_enc _ hXN
    have hft1 := fun w' (hT : Tabs N w') => (fillText_ok hT hcs (by omega) most tab HM.out.1 HM.out.2 HTAB.out.1 HTAB.out.2 (by rw [← hX]; omega))
    rw [← hX, ← hx] at hft1
    have hft2 := fun w' (hT : Tabs N w') => (fillText_ok hT hcsx (by omega) most tab HM.out.1 HM.out.2 HTAB.out.1 HTAB.out.2 (by rw [hX, fillT_again, ← hX]; omega))
    rw [show fillT widN most tab X = X by rw [hX, fillT_again], ← hx] at hft2
    have hp1 := fun w => cfplain_ok s (by omega) w
    have hp2 := fun w => cfplain_ok x (by omega) w
    have hplx : plB false x.data.toList = plB false s.data.toList := by
      rw [hx, encS_list, ← ec.1, plB_plain hXN, plB_plain ec.2, hX, fillT_words]
    rw [hplx] at hp2
    have hq1 := fun w => blanks_ok s (by omega) w
    have hq2 := fun w => blanks_ok x (by omega) w
    have hbkx : bkB false x.data.toList = bkB false s.data.toList := by
      rw [hx, encS_list, ← ec.1, bkB_blanks hXN, bkB_blanks ec.2, hX, fillT_blanks]
    rw [hbkx] at hq2
    generalize bkB false s.data.toList = BK at *
    generalize (⟨(plB false s.data.toList).toArray⟩ : ByteArray) = PL at *
    have hnar := fun r => fillT_narrow (wid := widN) (most := most) (tab := tab) rfl cs r
    rw [← hX] at hnar
    have HFT1 := Lib.hid hft1
    have HFT2 := Lib.hid hft2
    have HP1 := Lib.hid hp1
    have HP2 := Lib.hid hp2
    have HQ1 := Lib.hid hq1
    have HQ2 := Lib.hid hq2
    have HNAR := Lib.hid hnar
    have HXX := Lib.hid (⟨hX, hx, hXN, hxs, hXl, hchx⟩ : _ ∧ _ ∧ _ ∧ _ ∧ _ ∧ _)
    have HCS := Lib.hid (⟨hsz, hv, hcs, hch, ec⟩ : _ ∧ _ ∧ _ ∧ _ ∧ _)
    clear hft1 hft2 hp1 hp2 hq1 hq2 hnar hX hx hXN hxs hXl hchx hcsx hsz hv hcs hch ec hplx hbkx q1 q2 q3 q4 hmo htb
    go_wp2_with fail
    refine (K1.out w2).mono ?_
    rintro e w3 ⟨rfl, rfl⟩
    go_wp2_with fail
    refine (K2.out w2).mono ?_
    rintro e w3 ⟨rfl, rfl⟩
    clear K1 K2
    go_wp2_with fail
    refine (HFT1.out w2 (HT.out.up B2.out)).mono ?_
    rintro e w3 ⟨rfl, hb3⟩
    have B3 := Lib.hid (up2 B2.out hb3)
    clear hb3 HFT1 B2
    go_wp2_with fail
    refine (HFT2.out w3 (HT.out.up B3.out)).mono ?_
    rintro e w4 ⟨rfl, hb4⟩
    have B4 := Lib.hid (up2 B3.out hb4)
    clear hb4 HFT2 B3
    go_wp2_with fail
    refine (ofX_ok (HT.out.up B4.out) (HR.out.up B4.out) (Nat.le_trans HN.out B4.out.size) x (by have := HXX.out.2.2.2.1; omega) HXX.out.2.2.2.2.2.2).mono ?_
    rintro e w5 ⟨b, T, rfl, hb5, hp5, hT5⟩
    have S5 := Lib.hid (show St N w w.heap.size b w5 T 5 from ⟨up2 B4.out hb5, hp5.mono (fun k hk => Nat.le_trans B4.out.size hk.1) (Nat.le_refl _), (up2 B4.out hb5).size⟩)
    have O5 := Lib.hid hT5
    clear hb5 hp5 hT5 B4
    have e0 : (x.toList == x.toList) = true := by simp
    have e1 : (PL.toList == PL.toList) = true := by simp
    go_wp2_with fail
    refine (HP2.out w5).mono ?_
    rintro e w6 ⟨rfl, rfl⟩
    go_wp2_with fail
    refine (HP1.out w5).mono ?_
    rintro e w6 ⟨rfl, rfl⟩
    go_wp2_with fail
    refine (HQ2.out w5).mono ?_
    rintro e w6 ⟨rfl, rfl⟩
    go_wp2_with fail
    refine (HQ1.out w5).mono ?_
    rintro e w6 ⟨rfl, rfl⟩
    clear HP1 HP2 HQ1 HQ2
    have TX := Lib.hid (show T.cs = X from by rw [O5.out.cs]; exact HXX.out.2.2.2.2.2.1)
    have TLO := Lib.hid (show T.S.lo = 1 ∧ T.S.hi = X.length + 1 from ⟨O5.out.wide.lo, by rw [O5.out.wide.hi, TX.out]⟩)
    obtain ⟨n, hn⟩ : ∃ n, n = X.length + 1 := ⟨_, rfl⟩
    have HNn := Lib.hid hn
    have hn1 : n ≤ 3811 := by have := HXX.out.2.2.2.2.1; omega
    clear hn
    go_wp2_with fail
    go_loopw [13, 14] (fun va vb wr => ∃ (p lf : Nat), va = .int .i64 p ∧ vb = .int .i64 lf ∧ lf ≤ 1 ∧ 1 ≤ p ∧ p ≤ n ∧ (lf = 0 → ∃ a c, X = a ++ c ∧ fullR a ∧ p = a.length + 1) ∧ St N w w.heap.size b wr T 5) (fun va vb _ => 2 * (n - (intOf va).toNat) + (1 - (intOf vb).toNat))
    case atStart => exact ⟨1, 0, rfl, rfl, by omega, by omega, by have := HNn.out; omega, fun _ => ⟨[], X, rfl, .inl rfl, rfl⟩, S5.out⟩
    case round =>
      obtain ⟨p, lf, rfl, rfl, hlf, hp1, hp2, hline, hst⟩ := hrel
      by_cases h0 : lf = 0
      · obtain ⟨a, c, hac, hfull, hpa⟩ := hline h0
        obtain ⟨l, e, hL, hnx⟩ := line_law X a c tab hac hfull
        rw [← hpa, ← HNn.out] at hL hnx
        have SS := Lib.hid hst
        have HLL := Lib.hid hL
        have HNX := Lib.hid hnx
        have hed := end_ok hst.pb.r p (by rw [TLO.out.1]; exact hp1) (by rw [TLO.out.2, ← HNn.out]; exact hp2)
        rw [TX.out, TLO.out.2, ← HNn.out, hL.e1] at hed
        have HED := Lib.hid hed
        have he1 : p ≤ e := by have := hL.e2; omega
        have he2 : e ≤ n := hL.e3
        have f0 : ((lf : Int) == 0) = true := by subst h0; rfl
        have f1 : ((lf : Int) = 0) = True := eq_true (by omega)
        have f2 : (lf = 0) = True := eq_true h0
        have HP := Lib.hid (⟨hp1, hp2, he1, he2⟩ : _ ∧ _ ∧ _ ∧ _)
        have H0 := Lib.hid h0
        clear hst hL hnx hed hac hfull hpa hline hlf hp1 hp2 he1 he2 h0
        go_wp2_with fail
        refine HED.out.mono ?_
        rintro q w6 ⟨rfl, hb6⟩
        have S6 := Lib.hid (SS.out.up hb6)
        clear hb6 HED SS
        have hcl := column_ok S6.out.pb.r e tab HTAB.out.1 HTAB.out.2 (by rw [TLO.out.1]; have := HP.out; omega) (by rw [TLO.out.2, ← HNn.out]; exact HP.out.2.2.2)
        rw [TX.out, TLO.out.1, HLL.out.bg, HLL.out.wd] at hcl
        obtain ⟨W, hW⟩ : ∃ W, W = widthC tab widN 0 l := ⟨_, rfl⟩
        rw [← hW] at hcl
        have HCL := Lib.hid hcl
        have HW := Lib.hid hW
        clear hcl hW
        go_wp2_with fail
        refine HCL.out.mono ?_
        rintro q w7 ⟨rfl, hb7⟩
        have S7 := Lib.hid (S6.out.up hb7)
        clear hb7 HCL S6
        have hrb : reachB T.S (p : Int) (e : Int) = true := reach_iff.2 (by have h1 := TLO.out.1; have h2 := TLO.out.2; have h3 := HNn.out; have := HP.out; omega)
        have ht := pText S7.out.pb (p : Int) (e : Int)
        have htv : textV T (p : Int) (e : Int) = encS l := by
          unfold textV
          rw [if_pos hrb, TX.out]
          show encS (subL X p e) = _
          rw [HLL.out.tx]
        have hde : delE T (p : Int) (e : Int) = 0 := by unfold delE; rw [if_pos hrb]
        rw [htv, hde] at ht
        have hlx : (encS l).size ≤ 100000 := by
          have h1 := encS_le l
          have h2 := HLL.out.e2
          have := HP.out
          omega
        have hlN : ∀ c ∈ l, isN c := fun c hc => HXX.out.2.2.1 c (by rw [← HLL.out.tx] at hc; exact subL_in hc)
        have hone := one_ok (encS l) hlx
        rw [encS_list, onB_one hlN HLL.out.no] at hone
        obtain ⟨LS, hLS⟩ : ∃ LS, LS = encS l := ⟨_, rfl⟩
        rw [← hLS] at ht hone
        obtain ⟨K, hK⟩ : ∃ K, K = (wordsC l).length := ⟨_, rfl⟩
        rw [← hK] at hone
        have hnar : 2 ≤ K → W ≤ most := fun h2 => by
          rcases HLL.out.row with q | ⟨r, hr, hrl⟩
          · rw [hK, q] at h2; simp [wordsC, wordsA] at h2
          · have := HNAR.out r hr
            unfold NarrowR at this
            rw [hrl, ← hK, ← HW.out] at this
            exact this h2
        have HTX := Lib.hid ht
        have HON := Lib.hid hone
        have HNW := Lib.hid hnar
        clear hrb ht htv hde hlx hlN hone hLS hK hnar
        go_wp2_with fail
        refine HTX.out.mono ?_
        rintro q w8 ⟨rfl, hb8⟩
        have S8 := Lib.hid (S7.out.up hb8)
        clear hb8 HTX S7
        have hln := lines_fwd S8.out.pb.r p 1 (by omega) (by rw [TLO.out.1]; exact HP.out.1) (by rw [TLO.out.2, ← HNn.out]; exact HP.out.2.1)
        rw [TX.out, TLO.out.1, TLO.out.2, ← HNn.out] at hln
        have hln2 : Calls Tryz.prog 24 #[pAt b, .int .i64 p, .int .i64 1] w8 fun r w' => (∃ (p' lf' : Nat), r = .returned (.tuple #[.int .i64 p', .int .i64 lf', .int .i64 0]) ∧ lf' ≤ 1 ∧ 1 ≤ p' ∧ p' ≤ n ∧ (lf' = 0 → ∃ a c, X = a ++ c ∧ fullR a ∧ p' = a.length + 1) ∧ (lf' = 0 → p < p') ∧ p ≤ p') ∧ Below w8.heap.size w8 w' := by
          refine Calls.mono hln fun r w' ⟨h1, h2⟩ => ⟨?_, h2⟩
          rcases HNX.out with ⟨g1, g2⟩ | ⟨g1, g2, a', c', g3, g4, g5⟩
          · rw [g2] at h1
            exact ⟨n, 1, h1, by omega, by have := HP.out; omega, Nat.le_refl _, fun q => by omega, fun q => by omega, by have := HP.out; omega⟩
          · rw [g2] at h1
            exact ⟨e + 1, 0, h1, by omega, by omega, by omega, fun _ => ⟨a', c', g3, g4, g5⟩, fun _ => by have := HP.out; omega, by have := HP.out; omega⟩
        have HLN := Lib.hid hln2
        clear hln hln2
        by_cases hwm : W ≤ most
        · have d1 : decide ((most : Int) < (W : Int)) = false := decide_eq_false (by omega)
          have d2 : (most < W) = False := eq_false (by omega)
          clear hwm
          go_wp2_with fail
          refine HLN.out.mono ?_
          rintro q w9 ⟨⟨p', lf', rfl, g1, g2, g3, g4, g5, g6⟩, hb9⟩
          have S9 := Lib.hid (S8.out.up hb9)
          have G := Lib.hid (⟨g1, g2, g3, g4, g5, g6⟩ : _ ∧ _ ∧ _ ∧ _ ∧ _ ∧ _)
          clear hb9 HLN S8 g1 g2 g3 g4 g5 g6
          go_wp2_with fail
          go_roundw
          case rel =>
            first
            | exact ⟨p', lf', rfl, rfl, G.out.1, G.out.2.1, G.out.2.2.1, G.out.2.2.2.1, S9.out⟩
            | ((repeat apply Exists.intro); exact ⟨⟨p', lf', rfl, rfl, G.out.1, G.out.2.1, G.out.2.2.1, G.out.2.2.2.1, S9.out⟩, rfl⟩)
            | ((repeat apply Exists.intro); exact ⟨⟨rfl, rfl, G.out.1, G.out.2.1, G.out.2.2.1, G.out.2.2.2.1, S9.out⟩, rfl⟩)
          case measure =>
            have h1 := G.out
            have h2 := H0.out
            have h3 := HP.out
            simp only [intOf]
            rcases (show lf' = 0 ∨ lf' = 1 by omega) with q | q
            · have := h1.2.2.2.2.1 q
              subst q h2
              simp; omega
            · subst q h2
              simp; omega
        · have hk1 : K ≤ 1 := by have := HNW.out; omega
          have d1 : decide ((most : Int) < (W : Int)) = true := decide_eq_true (by omega)
          have d2 : (most < W) = True := eq_true (by omega)
          have d3 : decide ((1 : Int) < (K : Int)) = false := decide_eq_false (by omega)
          have d4 : (1 < K) = False := eq_false (by omega)
          clear hwm hk1
          go_wp2_with fail
          refine (HON.out w8).mono ?_
          rintro q w9 ⟨rfl, rfl⟩
          go_wp2_with fail
          refine HLN.out.mono ?_
          rintro q w9 ⟨⟨p', lf', rfl, g1, g2, g3, g4, g5, g6⟩, hb9⟩
          have S9 := Lib.hid (S8.out.up hb9)
          have G := Lib.hid (⟨g1, g2, g3, g4, g5, g6⟩ : _ ∧ _ ∧ _ ∧ _ ∧ _ ∧ _)
          clear hb9 HLN S8 g1 g2 g3 g4 g5 g6
          go_wp2_with fail
          go_roundw
          case rel =>
            first
            | exact ⟨p', lf', rfl, rfl, G.out.1, G.out.2.1, G.out.2.2.1, G.out.2.2.2.1, S9.out⟩
            | ((repeat apply Exists.intro); exact ⟨⟨p', lf', rfl, rfl, G.out.1, G.out.2.1, G.out.2.2.1, G.out.2.2.2.1, S9.out⟩, rfl⟩)
            | ((repeat apply Exists.intro); exact ⟨⟨rfl, rfl, G.out.1, G.out.2.1, G.out.2.2.1, G.out.2.2.2.1, S9.out⟩, rfl⟩)
          case measure =>
            have h1 := G.out
            have h2 := H0.out
            have h3 := HP.out
            simp only [intOf]
            rcases (show lf' = 0 ∨ lf' = 1 by omega) with q | q
            · have := h1.2.2.2.2.1 q
              subst q h2
              simp; omega
            · subst q h2
              simp; omega
      · have f0 : ((lf : Int) == 0) = false := by rw [beq_eq_false_iff_ne]; omega
        have f1 : ((lf : Int) = 0) = False := eq_false (by omega)
        have f2 : (lf = 0) = False := eq_false h0
        have SS := Lib.hid hst
        clear hst hline hlf hp1 hp2 h0
        go_wp2_with fail
        refine (ofX_ok (SS.out.tabs HN.out (Nat.le_refl _) HT.out) (SS.out.rules HN.out (Nat.le_refl _) HR.out) (Nat.le_trans HN.out SS.out.sz) s (by have := HCS.out.1; omega) HCS.out.2.1).mono ?_
        rintro q w6 ⟨c, T', rfl, hb6, hp6, hT6⟩
        have S6 := Lib.hid (show St N w w.heap.size c w6 T' 5 from ⟨SS.out.bl.trans (hb6.mono SS.out.sz), hp6.mono (fun k hk => Nat.le_trans SS.out.sz hk.1) (Nat.le_refl _), Nat.le_trans SS.out.sz hb6.size⟩)
        have O6 := Lib.hid hT6
        have TC := Lib.hid (show T'.cs = cs from by rw [hT6.cs]; exact HCS.out.2.2.2.1)
        have hm : cs.length ≤ 120 := by
          have := chars_len _ _ _ (Nat.le_refl _) HCS.out.2.2.1
          rw [size_len] at this
          have := HCS.out.1; omega
        obtain ⟨m, hmm⟩ : ∃ m, m = cs.length := ⟨_, rfl⟩
        have HMM := Lib.hid hmm
        have hsi := bsize S6.out.pb.r
        rw [TC.out, ← hmm] at hsi
        have HSI := Lib.hid hsi
        obtain ⟨y, hy⟩ : ∃ y, y = m + 1 := ⟨_, rfl⟩
        have s3 : IntKind.i64.wrap ((m : Int) + 1) = (y : Int) := by rw [IntWalk.i64_in _ (by omega)]; omega
        have HML := Lib.hid hm
        have HY := Lib.hid (show y = cs.length + 1 by omega)
        clear hy
        clear hb6 hp6 hT6 SS hsi hmm hm
        go_wp2_with fail
        refine HSI.out.mono ?_
        rintro q w7 ⟨rfl, hb7⟩
        have S7 := Lib.hid (S6.out.up hb7)
        clear hb7 HSI S6
        have hfo := Fill_ok (S7.out.tabs HN.out (Nat.le_refl _) HT.out) (S7.out.rules HN.out (Nat.le_refl _) HR.out) S7.out.pb (fun k hk => Nat.le_trans HN.out hk) (by omega) O6.out.wide.ro (by rw [TC.out]; have := HML.out; omega) 1 y most tab HM.out.1 HM.out.2 HTAB.out.1 HTAB.out.2 (by rw [O6.out.wide.lo]; omega) (by have := HY.out; omega) (by rw [O6.out.wide.hi, TC.out]; have := HY.out; omega)
          (by rw [TC.out, HY.out, sub_all, encS_len, HCS.out.2.2.2.2.1, size_len]; have := HCS.out.1; omega) (by rw [TC.out, HY.out, sub_all, ← HXX.out.1]; have := HXX.out.2.2.2.2.1; omega)
        have hfx : (fillX T' 1 y most tab).cs = X := by
          have q := fillX_all (T := T') (most := most) (tab := tab) (by rw [TC.out]; exact HCS.out.2.2.2.2.2)
          rw [TC.out, ← HXX.out.1] at q
          rw [HY.out]; exact q
        obtain ⟨T2, hT2⟩ : ∃ T2, T2 = fillX T' 1 y most tab := ⟨_, rfl⟩
        rw [← hT2] at hfo hfx
        have HFO := Lib.hid (show Calls Tryz.prog 25 #[pAt c, .int .i64 1, .int .i64 y, .int .i64 most, .int .i64 tab] w7 _ from hfo)
        have HFX := Lib.hid hfx
        clear hfo hfx hT2
        go_wp2_with fail
        refine HFO.out.mono ?_
        rintro q w8 ⟨rfl, h8⟩
        have S8 := Lib.hid (S7.out.next h8)
        clear h8 HFO S7
        go_wp2_with fail
        have hal := pAll S8.out.pb
        rw [HFX.out, ← HXX.out.2.1] at hal
        refine hal.mono ?_
        rintro q w9 ⟨rfl, hb9⟩
        have S9 := Lib.hid (S8.out.up hb9)
        clear hb9 hal S8
        go_wp2_with fail
        go_ret
        exact ⟨rfl, S9.out.bl⟩
end
end Go.Proofs.YtphdkcdkhklicaaGreatDoor
