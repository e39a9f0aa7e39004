import Derived.Test.YtcfdalmllegefaaGreatDoorZ22
import Derived.Test.YtcfdalmllegefaaGreatDoorZ23
/- ColumnNames: the walk. -/
namespace Go.Proofs.YtcfdalmllegefaaGreatDoor
open Go.RowKit Go.Lib
set_option linter.unusedVariables false
set_option linter.unusedSimpArgs false
abbrev sB : ByteArray := ⟨#[97, 98, 10, 99, 100]⟩
abbrev sC : ByteArray := ⟨#[32, 32, 97, 32, 98, 98, 10, 99, 99, 99, 10, 10, 32, 120]⟩
abbrev sD : ByteArray := ⟨#[40, 102, 111, 111, 32, 98, 97, 114, 10, 40, 120, 10, 34, 40, 10]⟩
abbrev sF : ByteArray := ⟨#[32, 32, 97, 32, 98, 98, 10, 32, 32, 99, 99, 99, 10, 10, 32, 120]⟩
abbrev sS : ByteArray := ⟨#[97, 98, 10, 9, 32, 99, 100]⟩
theorem c_B : charsD sB.data.toList = some nB := by decide +kernel
theorem c_C : charsD sC.data.toList = some nC := by decide +kernel
theorem c_D : charsD sD.data.toList = some nD := by decide +kernel
theorem e_F : encS nF = sF := by decide +kernel
theorem e_S : encS nS = sS := by decide +kernel
theorem e_C : encS nC = sC := by decide +kernel
theorem i_T : indT 3 2 true = ⟨#[9, 32]⟩ := by decide +kernel
theorem chrs_of {s : ByteArray} {cs : List Nat} (h : charsD s.data.toList = some cs) : chrs s = cs := by unfold chrs; rw [h]; rfl
theorem some_of {s : ByteArray} {cs : List Nat} (h : charsD s.data.toList = some cs) : (charsD s.data.toList).isSome = true := by rw [h]; rfl
/-- What SetIndent makes of the first example. -/
theorem n_sind {T : Tx} (hw : Wide T) (hc : T.cs = nB) : (sindT T 5 9 8 true).cs = nS ∧ (sindT T 5 9 8 true).S.lo = 1 ∧ (sindT T 5 9 8 true).S.hi = 8 := by
  have hlo := hw.lo
  have hhi := hw.hi
  rw [hc] at hhi
  have hA : indA T 5 = 4 := by unfold indA; rw [hc, hlo]; exact n_ind.1
  have hZ : indZ T 5 = 4 := by unfold indZ; rw [hc, hlo, hhi]; exact n_ind.2
  have hne : ¬ encS (subL T.cs 4 4) = indT 9 8 true := by rw [hc]; decide +kernel
  unfold sindT
  rw [hA, hZ, if_neg hne, n_it.2]
  have e : repT T 4 4 [9, 32] = putT T 4 [9, 32] false := by unfold repT takeT; simp
  rw [e]
  have hl : ¬ ([9, 32] : List Nat).length = 0 := by decide
  refine ⟨by rw [putT_cs, hc]; decide, ?_, ?_⟩
  · unfold putT; rw [if_neg hl]; show insN 4 2 T.S.lo false = 1; rw [hlo]; decide
  · unfold putT; rw [if_neg hl]; show insN 4 2 T.S.hi true = 8; rw [hhi]; decide
section
variable {w w' : World}
set_option maxRecDepth 100000 in
set_option maxHeartbeats 32000000 in
theorem names_true {N : Nat} (hT : Tabs N w) (hR : Rules N w) (hN : N ≤ w.heap.size) :
    Calls Tryz.prog 3 #[] w fun r w' => r = .returned (.bool true) ∧ Below w.heap.size w w' := by
  have HT := Lib.hid hT
  have HR := Lib.hid hR
  have HN := Lib.hid hN
  clear hT hR hN
  go_enter Tryz.func3, Tryz.ntmps3
  go_wp2_with fail
  refine (ofX_ok HT.out HR.out HN.out sB (by decide) (some_of c_B)).mono ?_
  rintro e w1 ⟨b, Tb, rfl, hb1, hp1, hT1⟩
  rw [chrs_of c_B] at hT1
  have O1 := Lib.hid (show Own1 N w.heap.size w1 b (fun k => w.heap.size ≤ k ∧ k < w1.heap.size) Tb 5 from ⟨hp1, fun k hk => hk.1, fun k hk => hk.2⟩)
  have B1 := Lib.hid hb1
  have X1 := Lib.hid hT1
  clear hb1 hp1 hT1
  go_wp2_with fail
  refine (ofX_ok (HT.out.up B1.out) (HR.out.up B1.out) (Nat.le_trans HN.out B1.out.size) sC (by decide) (some_of c_C)).mono ?_
  rintro e w2 ⟨c, Tc, rfl, hb2, hp2, hT2⟩
  rw [chrs_of c_C] at hT2
  have O2 := Lib.hid (show Own1 N w.heap.size w2 c (fun k => w1.heap.size ≤ k ∧ k < w2.heap.size) Tc 5 from ⟨hp2, fun k hk => Nat.le_trans B1.out.size hk.1, fun k hk => hk.2⟩)
  have O1' := Lib.hid (O1.out.up hb2)
  have B2 := Lib.hid (up2 B1.out hb2)
  have Z2 := Lib.hid hb2.size
  have X2 := Lib.hid hT2
  clear hb2 hp2 hT2 O1
  go_wp2_with fail
  refine (ofX_ok (HT.out.up B2.out) (HR.out.up B2.out) (Nat.le_trans HN.out B2.out.size) sD (by decide) (some_of c_D)).mono ?_
  rintro e w3 ⟨d, Td, rfl, hb3, hp3, hT3⟩
  rw [chrs_of c_D] at hT3
  have X3 := Lib.hid hT3
  have S0 := Lib.hid (show Tri N w b c d w3 (fun k => w.heap.size ≤ k ∧ k < w1.heap.size) (fun k => w1.heap.size ≤ k ∧ k < w2.heap.size) (fun k => w2.heap.size ≤ k ∧ k < w3.heap.size) Tb Tc Td 5 5 from
    ⟨up2 B2.out hb3, (up2 B2.out hb3).size, O1'.out.up hb3, O2.out.up hb3, ⟨hp3, fun k hk => Nat.le_trans B2.out.size hk.1, fun k hk => hk.2⟩, fun k h1 h2 => by omega, fun k h1 h2 => by have := Z2.out; omega, fun k h1 h2 => by omega⟩)
  clear hb3 hp3 hT3 O1' O2 B1 B2 Z2
  generalize (fun k : Nat => w.heap.size ≤ k ∧ k < w1.heap.size) = Fb at *
  generalize (fun k : Nat => w1.heap.size ≤ k ∧ k < w2.heap.size) = Fc at *
  generalize (fun k : Nat => w2.heap.size ≤ k ∧ k < w3.heap.size) = Fd at *
  have WB := Lib.hid (show Tb.cs = nB ∧ Tb.S.lo = 1 ∧ Tb.S.hi = 6 from ⟨X1.out.cs, X1.out.wide.lo, by rw [X1.out.wide.hi, X1.out.cs]; rfl⟩)
  have WC := Lib.hid (show Tc.cs = nC ∧ Tc.S.lo = 1 ∧ Tc.S.hi = 15 from ⟨X2.out.cs, X2.out.wide.lo, by rw [X2.out.wide.hi, X2.out.cs]; rfl⟩)
  have WD := Lib.hid (show Td.cs = nD ∧ Td.S.lo = 1 ∧ Td.S.hi = 16 from ⟨X3.out.cs, X3.out.wide.lo, by rw [X3.out.wide.hi, X3.out.cs]; rfl⟩)
  have HB0 := Lib.hid (show N ≤ w.heap.size from HN.out)
  go_wp2_with fail
  refine (lives_true (S0.out.tabs HN.out HT.out) (S0.out.rules HN.out HR.out) (Nat.le_trans HN.out S0.out.sz)).mono ?_
  rintro e w4 ⟨rfl, hb4⟩
  have SS := Lib.hid (S0.out.up hb4)
  clear hb4 S0
  go_wp2_with fail
  have q : Calls Tryz.prog 7 #[pAt b, .int .i64 2, .int .i64 1] w4 fun e w' => e = .returned (.tuple #[.int .i64 4, .int .i64 0, .int .i64 0]) ∧ Below w4.heap.size w4 w' := by
    have q := lines_fwd SS.out.b.pb.r 2 1 (by omega) (by rw [WB.out.2.1]; omega) (by rw [WB.out.2.2]; omega)
    rw [WB.out.1, WB.out.2.1, WB.out.2.2, n_l1] at q
    exact q
  refine q.mono ?_
  rintro e w5 ⟨rfl, hb⟩
  have SN := Lib.hid (SS.out.up hb)
  clear q hb SS
  go_wp2_with fail
  have SS := SN
  clear SN
  have q : Calls Tryz.prog 7 #[pAt b, .int .i64 2, .int .i64 5] w5 fun e w' => e = .returned (.tuple #[.int .i64 6, .int .i64 4, .int .i64 0]) ∧ Below w5.heap.size w5 w' := by
    have q := lines_fwd SS.out.b.pb.r 2 5 (by omega) (by rw [WB.out.2.1]; omega) (by rw [WB.out.2.2]; omega)
    rw [WB.out.1, WB.out.2.1, WB.out.2.2, n_l2] at q
    exact q
  refine q.mono ?_
  rintro e w6 ⟨rfl, hb⟩
  have SN := Lib.hid (SS.out.up hb)
  clear q hb SS
  go_wp2_with fail
  have SS := SN
  clear SN
  have q : Calls Tryz.prog 7 #[pAt b, .int .i64 5, .int .i64 (-1)] w6 fun e w' => e = .returned (.tuple #[.int .i64 1, .int .i64 0, .int .i64 0]) ∧ Below w6.heap.size w6 w' := by
    have q := lines_back SS.out.b.pb.r 5 1 (by omega) (by omega) (by rw [WB.out.2.1]; omega) (by rw [WB.out.2.2]; omega)
    rw [WB.out.1, WB.out.2.1, n_l3] at q
    exact q
  refine q.mono ?_
  rintro e w7 ⟨rfl, hb⟩
  have SN := Lib.hid (SS.out.up hb)
  clear q hb SS
  go_wp2_with fail
  have SS := SN
  clear SN
  have q : Calls Tryz.prog 7 #[pAt b, .int .i64 2, .int .i64 (-3)] w7 fun e w' => e = .returned (.tuple #[.int .i64 1, .int .i64 3, .int .i64 0]) ∧ Below w7.heap.size w7 w' := by
    have q := lines_back SS.out.b.pb.r 2 3 (by omega) (by omega) (by rw [WB.out.2.1]; omega) (by rw [WB.out.2.2]; omega)
    rw [WB.out.1, WB.out.2.1, n_l4] at q
    exact q
  refine q.mono ?_
  rintro e w8 ⟨rfl, hb⟩
  have SN := Lib.hid (SS.out.up hb)
  clear q hb SS
  go_wp2_with fail
  have SS := SN
  clear SN
  have q : Calls Tryz.prog 8 #[.string sC, .int .i64 6, .int .i64 8] w8 fun e w' => e = .returned (.tuple #[.string sF, .int .i64 0]) ∧ Below w8.heap.size w8 w' := by
    have q := fillText_ok (SS.out.tabs HN.out HT.out) c_C (by decide) 6 8 (by omega) (by omega) (by omega) (by omega) (by rw [n_fill]; decide)
    rw [n_fill, e_F] at q
    exact q
  refine q.mono ?_
  rintro e w9 ⟨rfl, hb⟩
  have SN := Lib.hid (SS.out.up hb)
  clear q hb SS
  go_wp2_with fail
  have SS := SN
  clear SN
  have q0 := Fill_ok (SS.out.tabs HN.out HT.out) (SS.out.rules HN.out HR.out) SS.out.c.pb (fun k hk => Nat.le_trans HN.out (SS.out.c.lo k hk)) (by omega) X2.out.wide.ro (by rw [WC.out.1]; decide) 1 15 6 8 (by omega) (by omega) (by omega) (by omega) (by rw [WC.out.2.1]; omega) (by omega) (by rw [WC.out.2.2]; omega)
    (by rw [WC.out.1]; decide +kernel) (by rw [WC.out.1, show subL nC 1 15 = nC by decide, n_fill]; decide)
  have hfx : (fillX Tc 1 15 6 8).cs = nF := by
    have q1 := fillX_all (T := Tc) (most := 6) (tab := 8) SS.out.c.pb.cn
    rw [WC.out.1] at q1
    exact q1.trans n_fill
  obtain ⟨Tc2, hTc2⟩ : ∃ T, T = fillX Tc 1 15 6 8 := ⟨_, rfl⟩
  rw [← hTc2] at q0 hfx
  have XC := Lib.hid hfx
  clear hfx hTc2
  have q : Calls Tryz.prog 9 #[pAt c, .int .i64 1, .int .i64 15, .int .i64 6, .int .i64 8] w9 _ := q0
  clear q0
  refine q.mono ?_
  rintro e w10 ⟨rfl, hs⟩
  have SN := Lib.hid (SS.out.stepC hs)
  clear q hs SS
  go_wp2_with fail
  have SS := SN
  clear SN
  have q0 := SetIndent_ok (SS.out.tabs HN.out HT.out) (SS.out.rules HN.out HR.out) SS.out.b.pb (fun k hk => Nat.le_trans HN.out (SS.out.b.lo k hk)) (by omega) X1.out.wide.ro (by rw [WB.out.1]; decide) 5 9 8 true (by omega) (by omega) (by omega) (by rw [WB.out.2.1]; omega) (by rw [WB.out.2.2]; omega)
  have hsx := n_sind X1.out.wide WB.out.1
  obtain ⟨Tb2, hTb2⟩ : ∃ T, T = sindT Tb 5 9 8 true := ⟨_, rfl⟩
  rw [← hTb2] at q0 hsx
  have XB := Lib.hid hsx
  clear hsx hTb2
  have q : Calls Tryz.prog 10 #[pAt b, .int .i64 5, .int .i64 9, .int .i64 8, .bool true] w10 _ := q0
  clear q0
  refine q.mono ?_
  rintro e w11 ⟨rfl, hs⟩
  have SN := Lib.hid (SS.out.stepB hs)
  clear q hs SS
  go_wp2_with fail
  have SS := SN
  clear SN
  have q : Calls Tryz.prog 11 #[pAt b, .int .i64 5, .int .i64 8] w11 fun e w' => e = .returned (.tuple #[.int .i64 6, .int .i64 9, .int .i64 0]) ∧ Below w11.heap.size w11 w' := by
    have q := Indent_ok SS.out.b.pb.r 5 8 (by omega) (by omega) (by rw [XB.out.2.1]; omega) (by rw [XB.out.2.2]; omega)
    rw [XB.out.1, XB.out.2.1, XB.out.2.2, n_i1.1, n_i1.2.1, n_i1.2.2.1, n_i1.2.2.2.1, n_i1.2.2.2.2] at q
    exact q
  refine q.mono ?_
  rintro e w12 ⟨rfl, hb⟩
  have SN := Lib.hid (SS.out.up hb)
  clear q hb SS
  go_wp2_with fail
  have SS := SN
  clear SN
  have q : Calls Tryz.prog 12 #[.int .i64 3, .int .i64 2, .bool true] w12 fun e w' => e = .returned (.tuple #[.string ⟨#[9, 32]⟩, .int .i64 0]) ∧ Below w12.heap.size w12 w' := by
    have q := itext_ok 3 2 true (by omega) (by omega) (by omega) w12
    rw [i_T] at q
    exact q
  refine q.mono ?_
  rintro e w13 ⟨rfl, hb⟩
  have SN := Lib.hid (SS.out.up hb)
  clear q hb SS
  go_wp2_with fail
  have SS := SN
  clear SN
  have q : Calls Tryz.prog 12 #[.int .i64 1001, .int .i64 2, .bool true] w13 fun e w' => e = .returned (.tuple #[.string ⟨#[]⟩, .int .i64 2]) ∧ Below w13.heap.size w13 w' := by
    exact (itext_no 1001 2 true (.inr (.inl (by omega))) w13).mono fun e w' ⟨h1, h2⟩ => ⟨h1, h2 ▸ Below.refl _ _⟩
  refine q.mono ?_
  rintro e w14 ⟨rfl, hb⟩
  have SN := Lib.hid (SS.out.up hb)
  clear q hb SS
  go_wp2_with fail
  have SS := SN
  clear SN
  refine (synLispN w14).mono ?_
  rintro e w15 ⟨tb, bs, ms, mo, rfl, hb, hL, _, _, _, _⟩
  have SN := Lib.hid (SS.out.up hb)
  have HL := Lib.hid hL
  clear hb hL SS
  go_wp2_with fail
  have SS := SN
  clear SN
  have q : Calls Tryz.prog 13 #[pAt d, pAt tb, .int .i64 10, .int .i64 8] w15 fun e w' => e = .returned (.tuple #[.int .i64 5, .int .i64 0]) ∧ Below w15.heap.size w15 w' := by
    have q := lispX (SS.out.tabs HN.out HT.out) HL.out SS.out.d.pb 10 8 (by omega) (by omega) (by rw [WD.out.2.1]; omega) (by rw [WD.out.2.2]; omega) (by rw [WD.out.1, WD.out.2.1]; decide +kernel)
    rw [WD.out.1, WD.out.2.1, WD.out.2.2, n_li1] at q
    exact q
  refine q.mono ?_
  rintro e w16 ⟨rfl, hb⟩
  have SN := Lib.hid (SS.out.up hb)
  clear q hb SS HL
  go_wp2_with fail
  have SS := SN
  clear SN
  refine (synLispN w16).mono ?_
  rintro e w17 ⟨tb, bs, ms, mo, rfl, hb, hL, _, _, _, _⟩
  have SN := Lib.hid (SS.out.up hb)
  have HL := Lib.hid hL
  clear hb hL SS
  go_wp2_with fail
  have SS := SN
  clear SN
  have q : Calls Tryz.prog 13 #[pAt d, pAt tb, .int .i64 13, .int .i64 8] w17 fun e w' => e = .returned (.tuple #[.int .i64 1, .int .i64 0]) ∧ Below w17.heap.size w17 w' := by
    have q := lispX (SS.out.tabs HN.out HT.out) HL.out SS.out.d.pb 13 8 (by omega) (by omega) (by rw [WD.out.2.1]; omega) (by rw [WD.out.2.2]; omega) (by rw [WD.out.1, WD.out.2.1]; decide +kernel)
    rw [WD.out.1, WD.out.2.1, WD.out.2.2, n_li2] at q
    exact q
  refine q.mono ?_
  rintro e w18 ⟨rfl, hb⟩
  have SN := Lib.hid (SS.out.up hb)
  clear q hb SS HL
  go_wp2_with fail
  have SS := SN
  clear SN
  have q : Calls Tryz.prog 15 #[pAt b, .int .i64 1, .int .i64 (-1), .int .i64 8] w18 fun e w' => e = .returned (.tuple #[.int .i64 0, .int .i64 0, .int .i64 2]) ∧ Below w18.heap.size w18 w' := by
    exact seek_arg SS.out.b.pb.r 1 (-1) 8 (by omega) (by omega) (by omega)
  refine q.mono ?_
  rintro e w19 ⟨rfl, hb⟩
  have SN := Lib.hid (SS.out.up hb)
  clear q hb SS
  go_wp2_with fail
  have SS := SN
  clear SN
  have q : Calls Tryz.prog 16 #[pAt b, .int .i64 99, .int .i64 8] w19 fun e w' => e = .returned (.tuple #[.int .i64 0, .int .i64 3]) ∧ Below w19.heap.size w19 w' := by
    exact column_far SS.out.b.pb.r 99 8 (by omega) (by omega) (.inr (by rw [XB.out.2.2]; omega))
  refine q.mono ?_
  rintro e w20 ⟨rfl, hb⟩
  have SN := Lib.hid (SS.out.up hb)
  clear q hb SS
  go_wp2_with fail
  have SS := SN
  clear SN
  have q : Calls Tryz.prog 16 #[pAt b, .int .i64 1, .int .i64 0] w20 fun e w' => e = .returned (.tuple #[.int .i64 0, .int .i64 2]) ∧ Below w20.heap.size w20 w' := by
    exact column_arg SS.out.b.pb.r 1 0 (.inl (by omega))
  refine q.mono ?_
  rintro e w21 ⟨rfl, hb⟩
  have SN := Lib.hid (SS.out.up hb)
  clear q hb SS
  go_wp2_with fail
  have SS := SN
  clear SN
  have q : Calls Tryz.prog 13 #[pAt d, .pointer none, .int .i64 1, .int .i64 8] w21 fun e w' => e = .returned (.tuple #[.int .i64 0, .int .i64 1]) ∧ Below w21.heap.size w21 w' := by
    exact lisp_none (pAt d) 1 8 w21
  refine q.mono ?_
  rintro e w22 ⟨rfl, hb⟩
  have SN := Lib.hid (SS.out.up hb)
  clear q hb SS
  go_wp2_with fail
  have SS := SN
  clear SN
  have q : Calls Tryz.prog 17 #[pAt c] w22 fun e w' => e = .returned (.string sF) ∧ Below w22.heap.size w22 w' := by
    have q := pAll SS.out.c.pb
    rw [XC.out, e_F] at q
    exact q
  refine q.mono ?_
  rintro e w23 ⟨rfl, hb⟩
  have SN := Lib.hid (SS.out.up hb)
  clear q hb SS
  go_wp2_with fail
  have SS := SN
  clear SN
  have q : Calls Tryz.prog 17 #[pAt b] w23 fun e w' => e = .returned (.string sS) ∧ Below w23.heap.size w23 w' := by
    have q := pAll SS.out.b.pb
    rw [XB.out.1, e_S] at q
    exact q
  refine q.mono ?_
  rintro e w24 ⟨rfl, hb⟩
  have SN := Lib.hid (SS.out.up hb)
  clear q hb SS
  go_wp2_with fail
  have SS := SN
  clear SN
  go_ret
  exact ⟨rfl, SS.out.bl⟩
end
end Go.Proofs.YtcfdalmllegefaaGreatDoor
