/- ColumnLisps: the walk. -/
import Derived.Test.YtphdkcdkhklicaaGreatDoorCkC
import Derived.Test.YtphdkcdkhklicaaGreatDoorCkD
import Derived.Test.YtphdkcdkhklicaaGreatDoorCkS
import Derived.Test.YtphdkcdkhklicaaGreatDoorZ18
import Derived.Test.YtphdkcdkhklicaaGreatDoorZ20
namespace Go.Proofs.YtphdkcdkhklicaaGreatDoor
open Go.RowKit Go.Lib
set_option linter.unusedVariables false
set_option linter.unusedSimpArgs false
/-- A buffer of blocks F, made since w. -/
structure Sx (N : Nat) (w : World) (b : Nat) (F : Nat → Prop) (w' : World) (T : Tx) (B : Nat) : Prop where
  bl : Below w.heap.size w w'
  pb : PB N w' b F T B
  fo : ∀ k, F k → w.heap.size ≤ k
section
variable {w w1 w2 : World} {N b B1 B2 : Nat} {F : Nat → Prop} {T1 T2 : Tx}
theorem Sx.next (h : Sx N w b F w1 T1 B1) (k : Only F w1 w2 ∧ PB N w2 b (grow F w1.heap.size) T2 B2) : Sx N w b (grow F w1.heap.size) w2 T2 B2 :=
  ⟨h.bl.trans (k.1.below h.bl.size h.fo), k.2, fun i hi => hi.elim (h.fo i) (fun e => Nat.le_trans h.bl.size e)⟩
theorem Sx.up (h : Sx N w b F w1 T1 B1) (k : Below w1.heap.size w1 w2) : Sx N w b F w2 T1 B1 := ⟨h.bl.trans (k.mono h.bl.size), h.pb.up k, h.fo⟩
theorem Sx.tabs (h : Sx N w b F w1 T1 B1) (hN : N ≤ w.heap.size) (hT : Tabs N w) : Tabs N w1 := hT.up h.bl
theorem Sx.rules (h : Sx N w b F w1 T1 B1) (hN : N ≤ w.heap.size) (hR : Rules N w) : Rules N w1 := hR.up h.bl
theorem Sx.ed (h : Sx N w b F w1 T1 B1) (hN : N ≤ w.heap.size) : edF N F := fun k hk => Nat.le_trans hN (h.fo k hk)
end
section
variable {w w' : World}
set_option maxRecDepth 100000 in
set_option maxHeartbeats 16000000 in
theorem lisps_true {N : Nat} (hT : Tabs N w) (hR : Rules N w) (hN : N ≤ w.heap.size) (s : ByteArray) (av cv tv : Int) :
    Calls Tryz.prog 3 #[.string s, .int .i64 av, .int .i64 cv, .int .i64 tv] w fun r w' => r = .returned (.bool true) ∧ Below w.heap.size w w' := by
  have HT := Lib.hid hT
  have HR := Lib.hid hR
  have HN := Lib.hid hN
  clear hT hR hN
  go_enter Tryz.func3, Tryz.ntmps3
  go_wp2_with fail
  refine (lives_true HT.out HR.out HN.out).mono ?_
  rintro e w1 ⟨rfl, hb1⟩
  have B1 := Lib.hid hb1
  clear hb1
  go_wp2_with fail
  refine (light_ok s w1).mono ?_
  rintro e w2 ⟨rfl, hb2⟩
  have B2 := Lib.hid (up2 B1.out hb2)
  clear hb2 B1
  cases hli : lightB s with
  | false =>
    go_wp2_with fail
    go_ret
    exact ⟨rfl, B2.out⟩
  | true =>
    unfold lightB at hli
    simp only [Bool.and_eq_true, decide_eq_true_eq] at hli
    obtain ⟨hsz, hv⟩ := hli
    rw [vld_chars] at hv
    have hlen := chrs_len s
    have HS := Lib.hid (⟨hsz, hv, hlen⟩ : _ ∧ _ ∧ _)
    clear hsz hv hlen
    have hof := ofX_ok (HT.out.up B2.out) (HR.out.up B2.out) (Nat.le_trans HN.out B2.out.size) s (by have := HS.out.1; omega) HS.out.2.1
    have HOF := Lib.hid hof
    clear hof
    go_wp2_with fail
    refine HOF.out.mono ?_
    rintro e w3 ⟨b, T, rfl, hb3, hp3, hT3⟩
    have S3 := Lib.hid (show Sx N w b (fun k => w2.heap.size ≤ k ∧ k < w3.heap.size) w3 T 5 from ⟨up2 B2.out hb3, hp3, fun k hk => Nat.le_trans B2.out.size hk.1⟩)
    have O3 := Lib.hid hT3
    clear hb3 hp3 hT3 HOF
    obtain ⟨n, hn⟩ : ∃ n, n = T.cs.length := ⟨_, rfl⟩
    have hn1 : n ≤ 120 := by rw [hn, O3.out.cs]; have := HS.out; omega
    have HNn := Lib.hid hn
    have hsi := bsize S3.out.pb.r
    rw [← hn] at hsi
    have HSI := Lib.hid hsi
    clear hsi hn
    obtain ⟨q1, q2⟩ := pick_pos av ((n : Int) + 1) (by omega)
    obtain ⟨q3, q4⟩ := pick_pos cv 100 (by omega)
    obtain ⟨q5, q6⟩ := pick_pos tv 64 (by omega)
    have k1 := fun w => pick_any av ((n : Int) + 1) w (by omega) (by omega)
    have k2 := fun w => pick_any cv 100 w (by omega) (by omega)
    have k3 := fun w => pick_any tv 64 w (by omega) (by omega)
    generalize pickI av ((n : Int) + 1) = p1 at *
    generalize pickI cv 100 = C at *
    generalize pickI tv 64 = p3 at *
    obtain ⟨A, hA⟩ : ∃ x : Int, x = 1 + p1 := ⟨_, rfl⟩
    obtain ⟨Tb, hTb⟩ : ∃ x : Int, x = 1 + p3 := ⟨_, rfl⟩
    have s0 : IntKind.i64.wrap ((n : Int) + 1) = (n : Int) + 1 := IntWalk.i64_in _ (by omega)
    have s3 : IntKind.i64.wrap (1 + p1) = A := by rw [hA]; exact IntWalk.i64_in _ (by omega)
    have s4 : IntKind.i64.wrap (1 + p3) = Tb := by rw [hTb]; exact IntWalk.i64_in _ (by omega)
    obtain ⟨k, hk⟩ : ∃ k : Nat, A = (k : Int) := ⟨A.toNat, by omega⟩
    obtain ⟨tab, htb⟩ : ∃ k : Nat, Tb = (k : Int) := ⟨Tb.toNat, by omega⟩
    obtain ⟨col, hcl⟩ : ∃ k : Nat, C = (k : Int) := ⟨C.toNat, by omega⟩
    subst hk htb hcl
    have hk1 : 1 ≤ k := by omega
    have hk2 : k ≤ n + 1 := by omega
    have ht1 : 1 ≤ tab := by omega
    have ht2 : tab ≤ 64 := by omega
    have hc : col ≤ 1000 := by omega
    have HK := Lib.hid (⟨hk1, hk2, ht1, ht2, hc, hn1⟩ : _ ∧ _ ∧ _ ∧ _ ∧ _ ∧ _)
    have K1 := Lib.hid k1
    have K2 := Lib.hid k2
    have K3 := Lib.hid k3
    have hcsz : (encS T.cs).size ≤ 120 := by rw [O3.out.cs, encS_chrs HS.out.2.1]; exact HS.out.1
    have hil := lisp_law O3.out.wide O3.out.empty O3.out.o S3.out.pb.cn (by rw [← HNn.out]; omega) hcsz (k := k) (col := col) (tab := tab) hk1 (by rw [← HNn.out]; exact hk2) hc ht1
    obtain ⟨x, S, n1, T2, hL⟩ := hil
    have HL := Lib.hid hL
    clear hA hTb hk1 hk2 ht1 ht2 hc hn1 k1 k2 k3 hL q1 q2 q3 q4 q5 q6 hcsz
    go_wp2_with fail
    refine HSI.out.mono ?_
    rintro e w4 ⟨rfl, hb4⟩
    have S4 := Lib.hid (S3.out.up hb4)
    have Z4 := Lib.hid hb4.size
    clear hb4 HSI S3
    go_wp2_with fail
    refine (K1.out w4).mono ?_
    rintro e w5 ⟨rfl, rfl⟩
    go_wp2_with fail
    refine (K2.out w4).mono ?_
    rintro e w5 ⟨rfl, rfl⟩
    go_wp2_with fail
    refine (K3.out w4).mono ?_
    rintro e w5 ⟨rfl, rfl⟩
    clear K1 K2 K3
    go_wp2_with fail
    have hlo : T.S.lo ≤ k := by rw [O3.out.wide.lo]; exact HK.out.1
    have hhi : k ≤ T.S.hi := by rw [O3.out.wide.hi, ← HNn.out]; exact HK.out.2.1
    have HLH := Lib.hid (⟨hlo, hhi⟩ : _ ∧ _)
    clear hlo hhi
    refine (synLispN w4).mono ?_
    rintro e w5 ⟨tb, bs, ms, mo, rfl, hb5, hlt, g1, g2, g3, g4⟩
    have S5 := Lib.hid (S4.out.up hb5)
    have L5 := Lib.hid hlt
    have z4 := Z4.out
    have HTB := Lib.hid (show w3.heap.size ≤ tb ∧ w3.heap.size ≤ bs ∧ w3.heap.size ≤ ms ∧ w3.heap.size ≤ mo by omega)
    clear hb5 hlt g1 g2 g3 g4 z4 S4
    go_wp2_with fail
    have hg := lispX (S5.out.tabs HN.out HT.out) L5.out S5.out.pb k tab HK.out.2.2.1 HK.out.2.2.2.1 HLH.out.1 HLH.out.2 HL.out.sz
    rw [HL.out.hn] at hg
    refine hg.mono ?_
    rintro e w6 ⟨rfl, hb6⟩
    have S6 := Lib.hid (S5.out.up hb6)
    have L6 := Lib.hid (L5.out.up hb6)
    clear hg hb6 S5 L5
    go_wp2_with fail
    have hbg := begin_ok S6.out.pb.r k HLH.out.1 HLH.out.2
    rw [HL.out.hx] at hbg
    refine hbg.mono ?_
    rintro e w7 ⟨rfl, hb7⟩
    have S7 := Lib.hid (S6.out.up hb7)
    have L7 := Lib.hid (L6.out.up hb7)
    clear hbg hb7 S6 L6
    obtain ⟨m, hm⟩ : ∃ m, m = x - 1 := ⟨_, rfl⟩
    have s5 : IntKind.i64.wrap ((x : Int) - 1) = (m : Int) := by
      have h1 := HL.out.x1; have h2 := HL.out.xk; have h3 := HK.out
      rw [IntWalk.i64_in _ (by omega)]; omega
    have hov := over_ok (S7.out.tabs HN.out HT.out) L7.out s (by have := HS.out.1; omega) HS.out.2.1 m (by rw [← O3.out.cs, ← HNn.out]; have h2 := HL.out.xk; have h3 := HK.out; omega)
    rw [← O3.out.cs, hm, HL.out.hS, ← hm] at hov
    have HOV := Lib.hid hov
    have HM := Lib.hid hm
    clear hov hm
    go_wp2_with fail
    refine HOV.out.mono ?_
    rintro e w8 ⟨v, rfl, hown, hb8⟩
    obtain ⟨A, cap, rfl, _, _, hRS⟩ := hown.shape eltI
    rw [List.length_map]
    have S8 := Lib.hid (S7.out.up hb8)
    have L8 := Lib.hid (L7.out.up hb8)
    have A8 := Lib.hid hRS
    clear hb8 hRS hown HOV S7 L7 s5
    obtain ⟨ln, hln⟩ : ∃ ln, ln = S.op.length := ⟨_, rfl⟩
    rw [← hln]
    have HLN := Lib.hid hln
    clear hln
    obtain ⟨inn, hin⟩ : ∃ inn, inn = S.inn := ⟨_, rfl⟩
    rw [← hin]
    have HIN := Lib.hid hin
    clear hin
    generalize S.un = un
    generalize S.st = st
    generalize S.co = co
    generalize S.qu = qu
    go_wp2_with fail
    have hk9 := Blk.made w8 37 (stC (.slice A ln cap) un inn st co qu)
    have hb9 := below1 w8 (.cells (stC (.slice A ln cap) un inn st co qu) 37)
    have S9 := Lib.hid (S8.out.up hb9)
    have L9 := Lib.hid (L8.out.up hb9)
    have A9 := Lib.hid (A8.out.up hb9)
    clear hb9 S8 L8 A8
    generalize w8.alloc (.cells (stC (.slice A ln cap) un inn st co qu) 37) = W9 at *
    have hig := Indent_ok S9.out.pb.r k tab HK.out.2.2.1 HK.out.2.2.2.1 HLH.out.1 HLH.out.2
    obtain ⟨cl, hcl⟩ : ∃ cl, cl = colN widN T.cs tab (lineB T.cs T.S.lo (indN T.cs (lineB T.cs T.S.lo k) (lineE T.cs T.S.hi k))) (indN T.cs (lineB T.cs T.S.lo k) (lineE T.cs T.S.hi k)) := ⟨_, rfl⟩
    rw [← hcl] at hig
    generalize indN T.cs (lineB T.cs T.S.lo k) (lineE T.cs T.S.hi k) = yy at hig
    refine hig.mono ?_
    rintro e w10 ⟨rfl, hb10⟩
    have S10 := Lib.hid (S9.out.up hb10)
    have L10 := Lib.hid (L9.out.up hb10)
    have A10 := Lib.hid (A9.out.up hb10)
    have hk10 := hk9.up hb10
    have c0 : w10.cell? ⟨w8.heap.size, 0, none⟩ = some (.slice A ln cap) := hk10.cell (j := 0) rfl
    have c2 : w10.cell? ⟨w8.heap.size, 2, none⟩ = some (.int .i64 inn) := hk10.cell (j := 2) rfl
    clear hb10 hig hk9 S9 L9 A9
    by_cases h0 : inn = 0
    · have dn : ((inn : Int) != 0) = false := by rw [h0]; rfl
      have d0 : ((inn : Int) == 0) = true := by rw [h0]; rfl
      have dt : ((inn : Int) = 0) = True := eq_true (by omega)
      by_cases h1 : ln = 0
      · have hn0 := HL.out.no (HIN.out.symm.trans h0) (List.eq_nil_of_length_eq_zero (by rw [← HLN.out, h1]))
        subst h1 hn0
        clear hcl
        go_wp2_with fail
        go_ret
        exact ⟨rfl, S10.out.bl⟩
      · obtain ⟨mm, hmm⟩ : ∃ mm, mm = ln - 1 := ⟨_, rfl⟩
        have hq0 : mm < S.op.length := by have := HLN.out; omega
        obtain ⟨q, hqx⟩ : ∃ q, S.op[mm]? = some q := ⟨_, List.getElem?_eq_getElem hq0⟩
        have hql : S.op.getLast? = some q := by rw [List.getLast?_eq_getElem?, ← HLN.out, ← hmm]; exact hqx
        obtain ⟨o1, o2, o3⟩ := HL.out.op (HIN.out.symm.trans h0) q hql
        have hlm : ln ≤ 1000 := by rw [HLN.out]; have := HL.out.oplen; have := HL.out.xk; have := HK.out; omega
        obtain ⟨gA, oA, rfl, hgA, hat⟩ := A10.out.at_ eltI (show (S.op.map Int.ofNat)[mm]? = some (q : Int) by rw [List.getElem?_map, hqx]; rfl)
        have x5 := hat 0 _ rfl
        rw [Nat.mul_one, Nat.add_zero] at x5
        obtain ⟨p, hp⟩ : ∃ p, p = q + 1 := ⟨_, rfl⟩
        rw [← hp] at o1 o2
        have hxk := HL.out.xk
        have hkk := HK.out
        have s1 : IntKind.i64.wrap ((ln : Int) - 1) = (mm : Int) := by rw [IntWalk.i64_in _ (by omega)]; omega
        have s2 : IntKind.i64.wrap (1 + (q : Int)) = (p : Int) := by rw [IntWalk.i64_in _ (by omega)]; omega
        have hml : mm < ln := by omega
        have hml2 : (mm : Int) < (ln : Int) := by omega
        have h1' : ((ln : Int) == 0) = false := by rw [beq_eq_false_iff_ne]; omega
        obtain ⟨C, hC⟩ : ∃ C, C = colN widN T.cs tab (lineB T.cs T.S.lo p) p := ⟨_, rfl⟩
        have HP := Lib.hid (show T.S.lo ≤ p ∧ p ≤ T.S.hi by rw [O3.out.wide.lo, O3.out.wide.hi, ← HNn.out]; omega)
        have hcg := column_ok S10.out.pb.r p tab HK.out.2.2.1 HK.out.2.2.2.1 HP.out.1 HP.out.2
        rw [← hC] at hcg o2
        have HCG := Lib.hid hcg
        have HO := Lib.hid (⟨o2, o3⟩ : _ ∧ _)
        have d1 : decide ((n1 : Int) ≤ (C : Int)) = false := decide_eq_false (by omega)
        have d2 : ((n1 : Int) ≤ (C : Int)) = False := eq_false (by omega)
        clear hcl hmm hq0 hqx hql o1 o2 o3 hat hgA hp hxk hkk hC hcg hlm h1
        go_wp2_with fail
        refine HCG.out.mono ?_
        rintro e w11 ⟨rfl, hb11⟩
        have S11 := Lib.hid (S10.out.up hb11)
        have L11 := Lib.hid (L10.out.up hb11)
        clear hb11 HCG S10 L10 A10 c0 c2 x5 hk10 s1 s2 hml hml2 h1'
        have hsg := SetIndent_ok (S11.out.tabs HN.out HT.out) (S11.out.rules HN.out HR.out) S11.out.pb (S11.out.ed HN.out) (by omega) O3.out.wide.ro (by rw [← HNn.out]; have := HK.out; omega) k col tab false HK.out.2.2.2.2.1 HK.out.2.2.1 HK.out.2.2.2.1 HLH.out.1 HLH.out.2
        rw [HL.out.ht2, ← HNn.out] at hsg
        have HSG := Lib.hid hsg
        clear hsg
        go_wp2_with fail
        refine HSG.out.mono ?_
        rintro e w12 ⟨rfl, k1, k2⟩
        have S12 := Lib.hid (S11.out.next ⟨k1, k2⟩)
        have L12 := Lib.hid (L11.out.only k1 (fun hk => by have := HTB.out; have := hk.2; omega) (fun hk => by have := HTB.out; have := hk.2; omega) (fun hk => by have := HTB.out; have := hk.2; omega) (fun hk => by have := HTB.out; have := hk.2; omega))
        clear k1 k2 HSG S11 L11 d1 d2
        have HX := Lib.hid (show T2.S.lo ≤ x ∧ x ≤ T2.S.hi by rw [HL.out.w2.lo, HL.out.w2.hi]; have := HL.out.x1; have := HL.out.xn; omega)
        have hg := lispX (S12.out.tabs HN.out HT.out) L12.out S12.out.pb x tab HK.out.2.2.1 HK.out.2.2.2.1 HX.out.1 HX.out.2 HL.out.sz2
        rw [HO.out.2] at hg
        have HG2 := Lib.hid hg
        clear hg
        go_wp2_with fail
        refine HG2.out.mono ?_
        rintro e w13 ⟨rfl, hb13⟩
        have S13 := Lib.hid (S12.out.up hb13)
        clear hb13 HG2 S12 L12
        by_cases hbig : 1000 < n1
        · have d3 : decide ((1000 : Int) < (n1 : Int)) = true := decide_eq_true (by omega)
          have d4 : ((1000 : Int) < (n1 : Int)) = True := eq_true (by omega)
          go_wp2_with fail
          go_ret
          exact ⟨rfl, S13.out.bl⟩
        · have d3 : decide ((1000 : Int) < (n1 : Int)) = false := decide_eq_false (by omega)
          have d4 : ((1000 : Int) < (n1 : Int)) = False := eq_false (by omega)
          have hsg := SetIndent_ok (S13.out.tabs HN.out HT.out) (S13.out.rules HN.out HR.out) S13.out.pb (S13.out.ed HN.out) (by have := HK.out; omega) HL.out.w2.ro (by have := HL.out.l2; omega) x n1 tab true (by omega) HK.out.2.2.1 HK.out.2.2.2.1 HX.out.1 HX.out.2
          have HSG := Lib.hid hsg
          clear hsg
          go_wp2_with fail
          refine HSG.out.mono ?_
          rintro e w14 ⟨rfl, k1, k2⟩
          have S14 := Lib.hid (S13.out.next ⟨k1, k2⟩)
          clear k1 k2 HSG S13
          go_wp2_with fail
          go_ret
          exact ⟨rfl, S14.out.bl⟩
    · have hcl2 := HL.out.own (by rw [← HIN.out]; exact h0)
      rw [← hcl] at hcl2
      subst hcl2
      have d1 : ((inn : Int) == 0) = false := by rw [beq_eq_false_iff_ne]; omega
      have d2 : ((inn : Int) = 0) = False := eq_false (by omega)
      have dn : ((inn : Int) != 0) = true := bne_iff_ne.2 (by omega)
      clear hcl h0
      go_wp2_with fail
      go_ret
      exact ⟨rfl, S10.out.bl⟩
end
end Go.Proofs.YtphdkcdkhklicaaGreatDoor
