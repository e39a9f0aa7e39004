/- package column: fill. -/
import Derived.Test.YtphdkcdkhklicaaGreatDoorCfJ
import Derived.Test.YtphdkcdkhklicaaGreatDoorCfF
import Derived.WalkMore
namespace Go.Proofs.YtphdkcdkhklicaaGreatDoor
open Go.RowKit Go.Lib
set_option linter.unusedVariables false
set_option linter.unusedSimpArgs false
theorem wordsA_sum : ∀ (cs cur : List Nat), ∀ w ∈ wordsA cur cs, (encL w).length ≤ (encL cur).length + (encL cs).length
  | [], cur, w, hw => by
    unfold wordsA at hw
    split at hw
    · simp at hw
    · simp at hw; subst hw; omega
  | c :: cs, cur, w, hw => by
    have e : (encL (c :: cs)).length = (encL [c]).length + (encL cs).length := by rw [show c :: cs = [c] ++ cs from rfl, encL_append, List.length_append]
    unfold wordsA at hw
    split at hw
    · split at hw
      · have := wordsA_sum cs [] w hw
        rw [encL_nil, List.length_nil] at this; omega
      · rw [List.mem_cons] at hw
        rcases hw with rfl | hw
        · omega
        · have := wordsA_sum cs [] w hw
          rw [encL_nil, List.length_nil] at this; omega
    · have := wordsA_sum cs _ w hw
      rw [encL_append, List.length_append] at this; omega
theorem encS_len (cs : List Nat) : (encS cs).size = (encL cs).length := by rw [← size_len, encS_list]
section
variable {w w' : World}
theorem ROwn.keptB {B b : Nat} {v : Value} {ws : List ByteArray} (h : ROwn encW 9 1 B w v ws) (hk : Kept b w w') (hb : b < B) : ROwn encW 9 1 B w' v ws := by
  refine h.kept fun g hg => ?_
  have hB := h.base hg
  rcases h.2 with ⟨rfl, h0⟩ | ⟨g', cap, cur, rfl, hb', hg', _⟩
  · cases hg
  · have : g' = g := by simpa [Value.ownBlock] using hg
    subst this
    rw [hg']
    refine hk g' _ hg' (fun e => by cases e; omega) (fun c fz e => ?_)
    simp at e
theorem str_app (a b : ByteArray) : (a ++ b).data.toList = a.data.toList ++ b.data.toList := by simp
theorem app_string (s t : ByteArray) (h1 : s.size ≤ 1000000000) (h2 : t.size ≤ 1000000000) (w : World) : (binOp .add 9 (.string s) (.string t)).run Tryz.prog w = .ok (.string (s ++ t)) w := by
  rw [binOp_string_add]; exact run_string_add_sum _ s t (by omega)
set_option maxRecDepth 100000 in
set_option maxHeartbeats 8000000 in
/-- fill at a valid string. -/
theorem fill_ok {s : ByteArray} {cs : List Nat} (h : charsD s.data.toList = some cs) (hs : s.size ≤ 16000) (most tab : Nat) (hm : most ≤ 1000) (ht1 : 1 ≤ tab) (ht2 : tab ≤ 64) (w : World) :
    Calls Tryz.prog 66 #[.string s, .int .i64 most, .int .i64 tab] w fun e w' => e = .returned (.string (encS (fillC widN most tab cs))) ∧ Below w.heap.size w w' := by
  have ec := enc_chars _ _ _ (Nat.le_refl _) h
  have hcl := chars_len _ _ _ (Nat.le_refl _) h
  rw [size_len] at hcl
  have hsl : (encL cs).length = s.size := by rw [ec.1, size_len]
  have hlead : (encL (leadC cs)).length + (encL (cs.dropWhile isT)).length = s.size := by rw [← List.length_append, ← lead_enc, hsl]
  have hex := lead_extract h
  have hT := trimL_ok h w
  have hleadd : charsD (encS (leadC cs)).data.toList = some (leadC cs) := by rw [encS_list]; exact chars_enc _ (fun c hc => ec.2 c (leadC_in cs c hc))
  have hLs : (encS (leadC cs)).size ≤ s.size := by rw [encS_len]; omega
  have hRs : (encS (cs.dropWhile isT)).size ≤ s.size := by rw [encS_len]; omega
  obtain ⟨LD, hLD⟩ : ∃ L, L = encS (leadC cs) := ⟨_, rfl⟩
  obtain ⟨RS, hRS⟩ : ∃ L, L = encS (cs.dropWhile isT) := ⟨_, rfl⟩
  rw [← hLD] at hex hleadd hLs
  rw [← hRS] at hex hT hRs
  obtain ⟨n0, hn0⟩ : ∃ n, n = s.size - RS.size := ⟨_, rfl⟩
  rw [← hn0] at hex
  have s1 : IntKind.i64.wrap ((s.size : Int) - RS.size) = (n0 : Int) := by rw [hn0]; rw [IntWalk.i64_in _ (by omega)]; omega
  have s2 : (0 : Int) ≤ n0 := by omega
  have s3 : (n0 : Int) ≤ s.size := by omega
  have HT := Lib.hid hT
  have HP := fun w => Lib.hid (parts_ok h (by omega) w)
  have HEC := Lib.hid ec
  have HCL := Lib.hid hcl
  have HSL := Lib.hid hsl
  have HLd := Lib.hid hleadd
  have HLD := Lib.hid hLD
  have HLL := Lib.hid (show (encL (leadC cs)).length ≤ s.size by omega)
  have HSUF := fun w => Lib.hid (suffix_ok h (by omega) w)
  have HWS := Lib.hid (fun x hx => (wordsC_wd cs x hx))
  have HWIN := Lib.hid (fun x hx => (wordsC_in cs x hx))
  have HWSUM := Lib.hid (fun x (hx : x ∈ wordsC cs) => (wordsA_sum cs [] x hx))
  have HMANY := Lib.hid (wordsC_many cs)
  have HS := Lib.hid hs
  have HTB := Lib.hid (⟨ht1, ht2⟩ : _ ∧ _)
  have HM := Lib.hid hm
  have HLS := Lib.hid hLs
  clear h ec hcl hsl hlead hT hleadd hRs hLD hRS hn0 hs ht1 ht2 hm hLs
  go_enter Tryz.func66, Tryz.ntmps66
  go_wp2_with fail
  go_step3
  go_wp2_with fail
  refine HT.out.mono ?_
  rintro e w1 ⟨rfl, hb1⟩
  go_wp2_with fail
  go_step3
  go_wp2_with fail
  have hbd1 := Bd.made w1
  have hsz1 : (w1.alloc (.cells #[.pointer none, .slice none 0 0] 138)).heap.size = w1.heap.size + 1 := by simp
  have B1 := Lib.hid (up2 hb1 (below1 w1 (.cells #[.pointer none, .slice none 0 0] 138)))
  generalize w1.alloc (.cells #[.pointer none, .slice none 0 0] 138) = W1 at *
  have z1 := hb1.size
  have B1' := B1.out
  clear B1
  generalize hb : w1.heap.size = b at hbd1 hsz1 z1 ⊢
  have B1 := Lib.hid B1'
  clear B1'
  refine (HP _).out.mono ?_
  rintro e w2 ⟨A, rfl, hown, hb2⟩
  have HB0 := Lib.hid (hbd1.up hb2)
  rw [hsz1] at hown hb2
  have B2 := Lib.hid (up2 B1.out (hsz1.symm ▸ hb2))
  have HR0 := Lib.hid hown
  have Z1 := Lib.hid z1
  have Z2 := Lib.hid (show b < w2.heap.size by have := hb2.size; omega)
  clear hbd1 hown hb2 hsz1 hb z1 hb1
  obtain ⟨nw, hnw⟩ : ∃ n, n = (wordsC cs).length := ⟨_, rfl⟩
  have HNW := Lib.hid hnw
  rw [← hnw] at HR0 ⊢
  clear hnw
  go_wp2_with fail
  go_loopw [9, 24] (fun vc vi wr => ∃ (i : Nat) (out : List Nat) (col : Nat), vc = .int .i64 col ∧ vi = .int .i64 i ∧ i ≤ nw ∧ FillAt most tab cs i out col ∧ Bd b b (encL out) wr ∧ ROwn encW 9 1 (b + 1) wr (.slice (some ⟨A, 0, none⟩) nw nw) ((wordsC cs).map encS) ∧ Below w.heap.size w wr ∧ (encL out).length ≤ i * (2 * s.size + 2) ∧ col ≤ 3000000 ∧ b < wr.heap.size) (fun _ vi _ => int2 vi (.int .i64 nw))
  case atStart => exact ⟨0, [], 0, rfl, rfl, Nat.zero_le _, .inl ⟨rfl, rfl, rfl⟩, HB0.out, HR0.out, B2.out, by simp [encL_nil], by omega, Z2.out⟩
  case round =>
    obtain ⟨i, out, col, rfl, rfl, hi, hfa, hbd, hrow, hbel, hlen, hcol, hbl⟩ := hrel
    have HFA := Lib.hid hfa
    have HBD := Lib.hid hbd
    have HROW := Lib.hid hrow
    have HBEL := Lib.hid hbel
    have HLEN := Lib.hid hlen
    clear hfa hbd hrow hbel hlen
    by_cases hlt : i < nw
    · obtain ⟨wd, hwd⟩ : ∃ x, (wordsC cs)[i]? = some x := ⟨_, List.getElem?_eq_getElem (by have := HNW.out; omega)⟩
      have hmem := List.mem_of_getElem? hwd
      have hsw := wordsA_sum cs [] wd hmem
      rw [encL_nil, List.length_nil, HSL.out, Nat.zero_add] at hsw
      have hwc := (wordsC_in cs wd hmem)
      have hwl := hwc.1
      have hNw : ∀ c ∈ wd, isN c := fun c hc => HEC.out.2 c (hwc.2 c hc)
      have hchw : charsD (encS wd).data.toList = some wd := by rw [encS_list]; exact chars_enc _ hNw
      have hwsz : (encS wd).size ≤ s.size := by rw [encS_len]; exact hsw
      have hwEl : ((wordsC cs).map encS)[i]? = some (encS wd) := by rw [List.getElem?_map, hwd]; rfl
      obtain ⟨WD, hWD⟩ : ∃ x, x = encS wd := ⟨_, rfl⟩
      rw [← hWD] at hchw hwsz hwEl
      obtain ⟨A', cap, e, hq1, hq2, hR⟩ := HROW.out.shape eltW
      have hAe : A' = some ⟨A, 0, none⟩ := by cases e; rfl
      subst hAe
      clear e hq1 hq2
      obtain ⟨g, o, e2, hg, hcell⟩ := hR.at_ eltW hwEl
      cases e2
      have k0 := hcell 0 _ rfl
      simp only [Nat.mul_one, Nat.add_zero, Nat.zero_add] at k0
      have hnb : nw ≤ 16001 := by have h1 := HMANY.out; have h2 := HCL.out; have h3 := HS.out; have h4 := HNW.out; omega
      have d1 : decide ((i : Int) < (nw : Int)) = true := decide_eq_true (by omega)
      have d2 : (i < nw) = True := eq_true hlt
      have i0 : (0 : Int) ≤ i := by omega
      have i1 : (i : Int) < nw := by omega
      obtain ⟨j, hj⟩ : ∃ j, j = i + 1 := ⟨_, rfl⟩
      have s4 : IntKind.i64.wrap ((i : Int) + 1) = (j : Int) := by rw [IntWalk.i64_in _ (by omega)]; omega
      have hzl : LD.size + WD.size ≤ 40000 := by have := HLS.out; have := HS.out; omega
      have hz1 : (⟨#[32]⟩ : ByteArray).size ≤ 1 := Nat.le_refl _
      obtain ⟨K1, hK1⟩ : ∃ k, k = widthC tab widN 0 (leadC cs) := ⟨_, rfl⟩
      have hK1l : K1 ≤ 64 * (leadC cs).length := by rw [hK1]; have := widthC_le (tab := tab) HTB.out.2 (leadC cs) 0; omega
      have hll := leadC_len cs
      have HW0 := fun (w : World) => Lib.hid (show Calls Tryz.prog 111 #[.int .i64 0, .string LD, .int .i64 tab] w fun e w' => e = .returned (.int .i64 (K1 : Nat)) ∧ Below w.heap.size w w' from by
        rw [hK1]; exact cwidth_ok HLd.out (by have := HLS.out; have := HS.out; omega) 0 tab (by omega) HTB.out.1 HTB.out.2 w)
      obtain ⟨K2, hK2⟩ : ∃ k, k = widthC tab widN K1 wd := ⟨_, rfl⟩
      have hK2l : K2 ≤ 3000000 := by rw [hK2]; have := widthC_le (tab := tab) HTB.out.2 wd K1; have := HCL.out; have := HS.out; omega
      have HW1 := fun (w : World) => Lib.hid (show Calls Tryz.prog 111 #[.int .i64 K1, .string WD, .int .i64 tab] w fun e w' => e = .returned (.int .i64 (K2 : Nat)) ∧ Below w.heap.size w w' from by
        rw [hK2]; exact cwidth_ok hchw (by have := HS.out; omega) K1 tab (by have := HCL.out; have := HS.out; omega) HTB.out.1 HTB.out.2 w)
      have hcap : (encL out).length ≤ 512100000 := by
        have h1 := HLEN.out
        have h2 : i * (2 * s.size + 2) ≤ 16001 * 32002 := Nat.mul_le_mul (by omega) (by have := HS.out; omega)
        omega
      have SZ4 := Lib.hid (show (encL out).length + (LD.size + WD.size + 1) ≤ 1000000000 by omega)
      have BD4 := HBD
      have ROW4 := HROW
      have BEL4 := HBEL
      have BLT4 := Lib.hid hbl
      have HJ := Lib.hid hj
      have HK1 := Lib.hid hK1
      have HK2 := Lib.hid hK2
      have K2LE := Lib.hid hK2l
      have HWDI := Lib.hid hwd
      have HWD := Lib.hid hWD
      have HWL := Lib.hid (show (encL wd).length ≤ s.size by omega)
      clear hK1 hK2 hK1l hK2l hll hcap hj hbl hwd hWD hwEl hsw hwc hwl hNw hmem hnb hcell hR
      by_cases h0 : i = 0
      · have d3 : decide ((0 : Int) < (i : Int)) = false := decide_eq_false (by omega)
        have d4 : (0 < i) = False := eq_false (by omega)
        have HOUT := Lib.hid (show out = [] by
          rcases HFA.out with ⟨_, q, _⟩ | ⟨q, _⟩
          · exact q
          · omega)
        have H0 := Lib.hid h0
        clear h0
        go_wp2_with fail
        all_goals (try (exfalso; omega))
        refine (bwrite BD4.out (LD ++ WD) (by have := SZ4.out; rw [ByteArray.size_append]; omega) (Nat.le_of_lt BLT4.out)).mono ?_
        rintro e w5 ⟨⟨v, rfl⟩, hbd5, hb5, hk5⟩
        have BD5 := Lib.hid hbd5
        have ROW5 := Lib.hid (ROW4.out.keptB hk5 (Nat.lt_succ_self b))
        have BEL5 := Lib.hid (BEL4.out.trans (hb5.mono Z1.out))
        have BLT5 := Lib.hid (Nat.lt_of_lt_of_le BLT4.out hb5.size)
        clear hbd5 hb5 hk5
        go_wp2_with fail
        refine (HW0 w5).out.mono ?_
        rintro e w6 ⟨rfl, hb6⟩
        have BD6 := Lib.hid (BD5.out.up hb6)
        have ROW6 := Lib.hid (ROW5.out.up hb6)
        have BEL6 := Lib.hid (BEL5.out.trans (hb6.mono BEL5.out.size))
        have BLT6 := Lib.hid (Nat.lt_of_lt_of_le BLT5.out hb6.size)
        clear hb6
        go_wp2_with fail
        refine (HW1 w6).out.mono ?_
        rintro e w7 ⟨rfl, hb7⟩
        have BD7 := Lib.hid (BD6.out.up hb7)
        have ROW7 := Lib.hid (ROW6.out.up hb7)
        have BEL7 := Lib.hid (BEL6.out.trans (hb7.mono BEL6.out.size))
        have BLT7 := Lib.hid (Nat.lt_of_lt_of_le BLT6.out hb7.size)
        clear hb7
        go_wp2_with fail
        go_roundw
        case rel =>
          have hfa2 : FillAt most tab cs j (leadC cs ++ wd) K2 := by rw [HJ.out, HK2.out, HK1.out]; exact HFA.out.first H0.out HWDI.out
          have hbd2 : Bd b b (encL (leadC cs ++ wd)) w7 := by
            have := BD7.out
            rw [str_app, HLD.out, HWD.out, encS_list, encS_list, HOUT.out, encL_nil, List.nil_append, ← encL_append] at this
            exact this
          have hle2 : (encL (leadC cs ++ wd)).length ≤ j * (2 * s.size + 2) := by
            rw [HJ.out, Nat.add_mul, Nat.one_mul, encL_append, List.length_append]
            have := HLL.out; have := HWL.out; omega
          have hj2 : j ≤ nw := by have := HJ.out; omega
          first
          | exact ⟨j, leadC cs ++ wd, K2, rfl, rfl, hj2, hfa2, hbd2, ROW7.out, BEL7.out, hle2, K2LE.out, BLT7.out⟩
          | ((repeat apply Exists.intro); exact ⟨⟨rfl, rfl, hj2, hfa2, hbd2, ROW7.out, BEL7.out, hle2, K2LE.out, BLT7.out⟩, rfl⟩)
          | ((repeat apply Exists.intro); exact ⟨⟨j, leadC cs ++ wd, K2, rfl, rfl, hj2, hfa2, hbd2, ROW7.out, BEL7.out, hle2, K2LE.out, BLT7.out⟩, rfl⟩)
        case measure => have := HJ.out; simp [int2]; omega
      · have d3 : decide ((0 : Int) < (i : Int)) = true := decide_eq_true (by omega)
        have d4 : (0 < i) = True := eq_true (by omega)
        have H0 := Lib.hid (show 1 ≤ i by omega)
        obtain ⟨c1, hc1⟩ : ∃ c, c = col + 1 := ⟨_, rfl⟩
        have s5 : IntKind.i64.wrap ((col : Int) + 1) = (c1 : Int) := by rw [IntWalk.i64_in _ (by omega)]; omega
        obtain ⟨K, hK⟩ : ∃ k, k = widthC tab widN c1 wd := ⟨_, rfl⟩
        have HWC := fun (w : World) => Lib.hid (show Calls Tryz.prog 111 #[.int .i64 c1, .string WD, .int .i64 tab] w fun e w' => e = .returned (.int .i64 (K : Nat)) ∧ Below w.heap.size w w' from by
          rw [hK]; exact cwidth_ok hchw (by have := HS.out; omega) c1 tab (by omega) HTB.out.1 HTB.out.2 w)
        have HC1 := Lib.hid hc1
        have HK := Lib.hid hK
        clear hc1 hK h0 hcol
        go_wp2_with fail
        refine (HWC wr).out.mono ?_
        rintro e w3 ⟨rfl, hb3⟩
        have BD3 := Lib.hid (BD4.out.up hb3)
        have ROW3 := Lib.hid (ROW4.out.up hb3)
        have BEL3 := Lib.hid (BEL4.out.trans (hb3.mono BEL4.out.size))
        have BLT3 := Lib.hid (Nat.lt_of_lt_of_le BLT4.out hb3.size)
        clear hb3 BD4 ROW4 BEL4 BLT4 HBD HROW HBEL
        by_cases hle : K ≤ most
        · have d5 : decide ((K : Int) ≤ (most : Int)) = true := decide_eq_true (by omega)
          have d6 : (K ≤ most) = True := eq_true hle
          have HLE := Lib.hid hle
          clear hle
          go_wp2_with fail
          all_goals (try (exfalso; omega))
          refine (bwrite BD3.out ((⟨#[32]⟩ : ByteArray) ++ WD) (by have := SZ4.out; rw [ByteArray.size_append]; omega) (Nat.le_of_lt BLT3.out)).mono ?_
          rintro e w5 ⟨⟨v, rfl⟩, hbd5, hb5, hk5⟩
          have BD5 := Lib.hid hbd5
          have ROW5 := Lib.hid (ROW3.out.keptB hk5 (Nat.lt_succ_self b))
          have BEL5 := Lib.hid (BEL3.out.trans (hb5.mono Z1.out))
          have BLT5 := Lib.hid (Nat.lt_of_lt_of_le BLT3.out hb5.size)
          clear hbd5 hb5 hk5
          go_wp2_with fail
          go_roundw
          case rel =>
            refine ⟨j, out ++ 32 :: wd, K, rfl, rfl, by have := HJ.out; omega, ?_, ?_, ROW5.out, BEL5.out, ?_, by have := HLE.out; have := HM.out; omega, BLT5.out⟩
            · rw [HJ.out, HK.out, HC1.out]; exact HFA.out.join H0.out HWDI.out (by have := HK.out; rw [HC1.out] at this; rw [← this]; exact HLE.out)
            · have := BD5.out
              rw [str_app, HWD.out, encS_list] at this
              rw [encL_append, encL_cons]
              exact this
            · have e32 : (Utf8.encode ((32 : Nat) : Int)).data.toList.length = 1 := rfl
              rw [HJ.out, Nat.add_mul, Nat.one_mul, encL_append, List.length_append, encL_cons, List.length_append, e32]
              have := HWL.out; have := HLEN.out; omega
          case measure => have := HJ.out; simp [int2]; omega
        · have d5 : decide ((K : Int) ≤ (most : Int)) = false := decide_eq_false (by omega)
          have d6 : (K ≤ most) = False := eq_false hle
          have HLE := Lib.hid hle
          clear hle
          go_wp2_with fail
          refine (show Calls Tryz.prog 113 #[.pointer (some ⟨b, 0, none⟩), .int .u8 10] w3 _ from bwrite1 BD3.out 10 (by have := SZ4.out; omega) (Nat.le_of_lt BLT3.out)).mono ?_
          rintro e w4 ⟨⟨v, rfl⟩, hbd5, hb5, hk5⟩
          have BD4 := Lib.hid (show Bd b b (encL (out ++ [10])) w4 by rw [encL_append, encL_cons, encL_nil, List.append_nil]; exact hbd5)
          have ROW4 := Lib.hid (ROW3.out.keptB hk5 (Nat.lt_succ_self b))
          have BEL4 := Lib.hid (BEL3.out.trans (hb5.mono Z1.out))
          have BLT4 := Lib.hid (Nat.lt_of_lt_of_le BLT3.out hb5.size)
          have SZ5 := SZ4
          clear SZ4
          have SZ4 := Lib.hid (show (encL (out ++ [10])).length + (LD.size + WD.size) ≤ 1000000000 by
            have e10 : (Utf8.encode ((10 : Nat) : Int)).data.toList.length = 1 := rfl
            rw [encL_append, List.length_append, encL_cons, List.length_append, e10, encL_nil, List.length_nil]
            have := SZ5.out; omega)
          clear hbd5 hb5 hk5
          go_wp2_with fail
          all_goals (try (exfalso; omega))
          refine (bwrite BD4.out (LD ++ WD) (by have := SZ4.out; rw [ByteArray.size_append]; omega) (Nat.le_of_lt BLT4.out)).mono ?_
          rintro e w5 ⟨⟨v, rfl⟩, hbd5, hb5, hk5⟩
          have BD5 := Lib.hid hbd5
          have ROW5 := Lib.hid (ROW4.out.keptB hk5 (Nat.lt_succ_self b))
          have BEL5 := Lib.hid (BEL4.out.trans (hb5.mono Z1.out))
          have BLT5 := Lib.hid (Nat.lt_of_lt_of_le BLT4.out hb5.size)
          clear hbd5 hb5 hk5
          go_wp2_with fail
          refine (HW0 w5).out.mono ?_
          rintro e w6 ⟨rfl, hb6⟩
          have BD6 := Lib.hid (BD5.out.up hb6)
          have ROW6 := Lib.hid (ROW5.out.up hb6)
          have BEL6 := Lib.hid (BEL5.out.trans (hb6.mono BEL5.out.size))
          have BLT6 := Lib.hid (Nat.lt_of_lt_of_le BLT5.out hb6.size)
          clear hb6
          go_wp2_with fail
          refine (HW1 w6).out.mono ?_
          rintro e w7 ⟨rfl, hb7⟩
          have BD7 := Lib.hid (BD6.out.up hb7)
          have ROW7 := Lib.hid (ROW6.out.up hb7)
          have BEL7 := Lib.hid (BEL6.out.trans (hb7.mono BEL6.out.size))
          have BLT7 := Lib.hid (Nat.lt_of_lt_of_le BLT6.out hb7.size)
          clear hb7
          go_wp2_with fail
          go_roundw
          case rel =>
            refine ⟨j, out ++ 10 :: (leadC cs ++ wd), K2, rfl, rfl, by have := HJ.out; omega, ?_, ?_, ROW7.out, BEL7.out, ?_, K2LE.out, BLT7.out⟩
            · rw [HJ.out, HK2.out, HK1.out]; exact HFA.out.break_ H0.out HWDI.out (by have := HK.out; rw [HC1.out] at this; rw [← this]; exact HLE.out)
            · have := BD7.out
              rw [str_app, HLD.out, HWD.out, encS_list, encS_list, ← encL_append, ← encL_append, List.append_assoc] at this
              exact this
            · have e10 : (Utf8.encode ((10 : Nat) : Int)).data.toList.length = 1 := rfl
              rw [HJ.out, Nat.add_mul, Nat.one_mul, encL_append, List.length_append, encL_cons, List.length_append, e10, encL_append, List.length_append]
              have := HLL.out; have := HWL.out; have := HLEN.out; omega
          case measure => have := HJ.out; simp [int2]; omega
    · obtain rfl : i = nw := by omega
      have d1 : decide ((i : Int) < (i : Int)) = false := decide_eq_false (by omega)
      have d2 : (i < i) = False := eq_false (by omega)
      have hall : out = fillW widN (leadC cs) most tab (wordsC cs) := by
        have := HFA.out
        rw [HNW.out] at this
        exact this.all
      have hcap : (encL out).length ≤ 512100000 := by
        have h1 := HLEN.out
        have h2 : i * (2 * s.size + 2) ≤ 16001 * 32002 := Nat.mul_le_mul (by have h1 := HMANY.out; have h2 := HCL.out; have h3 := HS.out; have h4 := HNW.out; omega) (by have := HS.out; omega)
        omega
      have HALL := Lib.hid hall
      have HCAP := Lib.hid hcap
      have BLT := Lib.hid hbl
      clear hall hcap hbl hcol
      go_wp2_with fail
      refine (HSUF wr).out.mono ?_
      rintro e w5 ⟨rfl, rfl⟩
      by_cases hnl : cs.getLast? = some 10
      · have d3 : decide (cs.getLast? = some 10) = true := decide_eq_true hnl
        have HNL := Lib.hid hnl
        clear hnl
        go_wp2_with fail
        refine (show Calls Tryz.prog 113 #[.pointer (some ⟨b, 0, none⟩), .int .u8 10] wr _ from bwrite1 HBD.out 10 (by have := HCAP.out; omega) (Nat.le_of_lt BLT.out)).mono ?_
        rintro e w6 ⟨⟨v, rfl⟩, hbd6, hb6, hk6⟩
        have BD6 := Lib.hid hbd6
        have BEL6 := Lib.hid (HBEL.out.trans (hb6.mono Z1.out))
        have BLT6 := Lib.hid (Nat.lt_of_lt_of_le BLT.out hb6.size)
        clear hbd6 hb6 hk6
        go_wp2_with fail
        refine (bstring BD6.out (Nat.le_of_lt BLT6.out)).mono ?_
        rintro e w7 ⟨rfl, hb7⟩
        have BEL7 := Lib.hid (BEL6.out.trans (hb7.mono Z1.out))
        clear hb7
        go_wp2_with fail
        rw [Exit.noGoto_ret]
        go_ret
        refine ⟨?_, BEL7.out⟩
        refine congrArg (fun b => Ending.returned (.string b)) (bytes_ext ?_)
        rw [encS_list]
        unfold fillC endNL
        rw [if_pos HNL.out, ← HALL.out, encL_append, encL_cons, encL_nil, List.append_nil]
        rfl
      · have d3 : decide (cs.getLast? = some 10) = false := decide_eq_false hnl
        have HNL := Lib.hid hnl
        clear hnl
        go_wp2_with fail
        refine (bstring HBD.out (Nat.le_of_lt BLT.out)).mono ?_
        rintro e w7 ⟨rfl, hb7⟩
        have BEL7 := Lib.hid (HBEL.out.trans (hb7.mono Z1.out))
        clear hb7
        go_wp2_with fail
        rw [Exit.noGoto_ret]
        go_ret
        refine ⟨?_, BEL7.out⟩
        refine congrArg (fun b => Ending.returned (.string b)) (bytes_ext ?_)
        rw [encS_list]
        unfold fillC endNL
        rw [if_neg HNL.out, ← HALL.out, List.append_nil]
end
end Go.Proofs.YtphdkcdkhklicaaGreatDoor
