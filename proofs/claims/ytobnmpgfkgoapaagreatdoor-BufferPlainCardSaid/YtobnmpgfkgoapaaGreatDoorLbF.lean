import Derived.Test.YtobnmpgfkgoapaaGreatDoorLbE
/- copyistlaw20: BufferPlain's walk. -/
namespace Go.Proofs.YtobnmpgfkgoapaaGreatDoor
open Go.RowKit Go.Lib
set_option linter.unusedVariables false
set_option linter.unusedSimpArgs false
section
variable {N : Nat} {w w' : World} {A : Option Addr} {L : List AcE}
/-- The cells of an act in memory. -/
structure AcC (w : World) (g o : Nat) (e : AcE) : Prop where
  c0 : w.cell? ⟨g, o, none⟩ = some (.int .i64 e.k)
  c1 : w.cell? ⟨g, o + 1, none⟩ = some (.int .i64 e.a)
  c2 : w.cell? ⟨g, o + 2, none⟩ = some (.int .i64 e.b)
  c3 : w.cell? ⟨g, o + 3, none⟩ = some (.int .i64 e.id)
  c4 : w.cell? ⟨g, o + 4, none⟩ = some (.int .i64 e.nm)
  c5 : w.cell? ⟨g, o + 5, none⟩ = some (.string e.tx)
  c6 : w.cell? ⟨g, o + 6, none⟩ = some (.bool e.on)
  c7 : w.cell? ⟨g, o + 7, none⟩ = some (.bool e.also)
  c8 : w.cell? ⟨g, o + 8, none⟩ = some (.int .i64 e.vk)
  c9 : w.cell? ⟨g, o + 9, none⟩ = some (.int .i64 e.vn)
  c10 : w.cell? ⟨g, o + 10, none⟩ = some (.slice e.sA e.sp.length e.sc)
theorem ActsAt.cells (h : ActsAt w A L) {i : Nat} {e : AcE} (hx : L[i]? = some e) : ∃ g o, A = some ⟨g, o, none⟩ ∧ ∀ W, Below w.heap.size w W → AcC W g (o + i * 11) e := by
  obtain ⟨g, o, e1, hg, hat⟩ := h.l.at_ eltA hx
  refine ⟨g, o, e1, fun W hb => ?_⟩
  have q : ∀ j u, (encA e)[j]? = some u → W.cell? ⟨g, o + i * 11 + j, none⟩ = some u := fun j u hu => by
    rw [Nat.add_assoc]; exact cell_up (hat j u hu) hb
  exact ⟨q 0 _ rfl, q 1 _ rfl, q 2 _ rfl, q 3 _ rfl, q 4 _ rfl, q 5 _ rfl, q 6 _ rfl, q 7 _ rfl, q 8 _ rfl, q 9 _ rfl, q 10 _ rfl⟩
/-- The state at the head of the loop. -/
structure Rnd (N : Nat) (w : World) (b : Nat) (i : Nat) (wr : World) (T : Tx) (B : Nat) : Prop where
  st : St N w w.heap.size b wr T B
  B : B ≤ 10 + i * 10000
  wd : Wide T
  len : T.cs.length ≤ 60 + i * 60
theorem textV_le {T : Tx} (h : T.cs.length ≤ 2500) (x y : Int) : (textV T x y).size ≤ 20000 := by
  unfold textV
  split
  · have := encS_le (subL T.cs x.toNat y.toNat)
    have : (subL T.cs x.toNat y.toNat).length ≤ T.cs.length := by unfold subL; simp; omega
    omega
  · decide
theorem bool_ne_self (b : Bool) : (b != b) = false := by cases b <;> rfl
set_option maxRecDepth 100000 in
set_option maxHeartbeats 40000000 in
theorem plain_true (hT : Tabs N w) (hR : Rules N w) (hN : N ≤ w.heap.size) (s : ByteArray) (hs : s.size ≤ 9223372036854775807) (hA : ActsAt w A L) (c : Nat) (hl : L.length ≤ 9223372036854775807) :
    Calls Tryz.prog 3 #[.string s, .slice A L.length c] w fun r w' => r = .returned (.bool true) ∧ Below w.heap.size w w' := by
  have HT := Lib.hid hT
  have HR := Lib.hid hR
  have HN := Lib.hid hN
  have HA := Lib.hid hA
  clear hT hR hN hA
  go_enter Tryz.func3, Tryz.ntmps3
  go_wp2_with fail
  refine (lives_ok HT.out HR.out HN.out).mono ?_
  rintro r w1 ⟨rfl, hb1⟩
  have B1 := Lib.hid hb1
  have T1 := Lib.hid (HT.out.up hb1)
  have R1 := Lib.hid (HR.out.up hb1)
  have A1 := Lib.hid (HA.out.up hb1)
  have z1 := hb1.size
  clear hb1 HT HR HA
  by_cases h60 : 60 < s.size
  · have d1 : decide ((60 : Int) < (s.size : Int)) = true := decide_eq_true (by omega)
    have d2 : ((60 : Int) < (s.size : Int)) = True := eq_true (by omega)
    go_wp2_with fail
    go_ret
    exact ⟨rfl, B1.out⟩
  have d1 : decide ((60 : Int) < (s.size : Int)) = false := decide_eq_false (by omega)
  have d2 : ((60 : Int) < (s.size : Int)) = False := eq_false (by omega)
  go_wp2_with fail
  refine (light_ok A1.out c hl).mono ?_
  rintro r w2 ⟨bl, rfl, rfl, hbl⟩
  have HBL := Lib.hid hbl
  clear hbl
  cases bl with
  | false =>
    go_wp2_with fail
    go_ret
    exact ⟨rfl, B1.out⟩
  | true =>
  obtain ⟨hL, hTX⟩ := HBL.out rfl
  go_wp2_with fail
  refine (with_ok T1.out R1.out (by have := HN.out; omega) s (by omega)).mono ?_
  rintro r w2 ⟨b, t, m, p, o, l, rfl, hb2, hp2⟩
  have B2 := Lib.hid hb2
  have P2 := Lib.hid hp2
  have HS := Lib.hid (⟨h60, hL, hTX, hl, hs⟩ : _ ∧ _ ∧ _ ∧ _ ∧ _)
  have hN1 := Lib.hid (show N ≤ w1.heap.size by have := HN.out; omega)
  clear hb2 hp2 d1 d2 h60 HBL hL hTX hl hs
  by_cases hv : (charsD s.data.toList).isSome = true
  case neg =>
    have hv' : (charsD s.data.toList).isSome = false := by simpa using hv
    have hvl : vld s = false := by rw [vld_chars]; exact hv'
    rw [hv']
    have HV := Lib.hid (hvl ▸ rvalid_any s w2 (by have := HS.out; omega))
    clear hv hv' hvl
    go_wp2_with fail
    refine HV.out.mono ?_
    rintro r w3 ⟨rfl, hb3⟩
    go_wp2_with fail
    go_ret
    exact ⟨rfl, (up2 B1.out B2.out).trans (hb3.mono (by have := B2.out.size; omega))⟩
  rw [hv]
  have S2 : Hid (Rnd N w1 b 0 w2 (withT t m p o l 3 (chrs s)) 5) := by
    have hlen := chrs_len s
    have hcs : (withT t m p o l 3 (chrs s)).cs = chrs s := by
      show (insT _ _ _).cs = _
      show (putT _ _ _ _).cs = _
      rw [putT_cs]; unfold insC; simp
    exact Lib.hid ⟨⟨B2.out, (P2.out hv).mono (fun k hk => hk.1) (Nat.le_refl _), B2.out.size⟩, by omega, by have hw := Wide.ins (T := freshT t m p o l 3) (s := chrs s) (bf := false) ⟨rfl, rfl, rfl⟩ (by show 1 ≤ 1; omega) (by show 1 ≤ 0 + 1; omega); exact ⟨hw.lo, hw.hi, hw.ro⟩, by rw [hcs]; have := HS.out; omega⟩
  clear hv P2 B2
  go_wp2_with fail
  go_loopw [7] (fun va wr => ∃ i : Nat, i ≤ L.length ∧ va = .int .i64 i ∧ ∃ T B, Rnd N w1 b i wr T B) (fun va _ => int2 va (.int .i64 L.length))
  case atStart => exact ⟨0, Nat.zero_le _, rfl, _, _, S2.out⟩
  case round =>
    clear S2
    obtain ⟨i, hi, rfl, T, B, hst⟩ := hrel
    have SR := Lib.hid hst
    clear hst
    by_cases hlt : i < L.length
    case neg =>
      have d1 : decide ((i : Int) < L.length) = false := decide_eq_false (by omega)
      have d2 : ((i : Int) < L.length) = False := eq_false (by omega)
      go_wp2_with fail
      go_ret
      exact ⟨rfl, B1.out.trans (SR.out.st.bl.mono z1)⟩
    have hL40 : i < 40 := by have := HS.out; omega
    have d1 : decide ((i : Int) < L.length) = true := decide_eq_true (by omega)
    have d2 : ((i : Int) < L.length) = True := eq_true (by omega)
    have d3 : (i : Int) < L.length := by omega
    have si : IntKind.i64.wrap ((i : Int) + 1) = ((i + 1 : Nat) : Int) := by rw [IntWalk.i64_in _ (by omega)]; omega
    obtain ⟨e, hx⟩ : ∃ e, L[i]? = some e := ⟨_, List.getElem?_eq_getElem hlt⟩
    obtain ⟨g, o2, rfl, hcell⟩ := A1.out.cells hx
    have hts := HS.out.2.2.1 e (List.mem_of_getElem? hx)
    have HC := Lib.hid hcell
    have HTS := Lib.hid hts
    have HII := Lib.hid (⟨hlt, hL40⟩ : _ ∧ _)
    clear hx hcell hts hlt hL40
    have a0 := (HC.out wr SR.out.st.bl).c0
    obtain ⟨K, hK⟩ : ∃ K, K = pickI e.k 32 := ⟨_, rfl⟩
    have hpp := pick_pos e.k 32 (by omega)
    rw [← hK] at hpp
    have hpk := pick_any e.k 32 wr (by omega) (by omega)
    rw [← hK] at hpk
    have HPK := Lib.hid hpk
    have HK := Lib.hid hK
    clear hpk hK
    go_wp2_with fail
    refine HPK.out.mono ?_
    rintro r w3 ⟨rfl, hw3⟩
    have S3 := Lib.hid (hw3 ▸ SR.out)
    clear HPK a0 SR hw3
    by_cases h8 : 8 < K
    · have e1 : decide ((8 : Int) < K) = true := decide_eq_true h8
      have e2 : ((8 : Int) < K) = True := eq_true h8
      clear h8 hpp
      go_wp2_with fail
      go_roundw
      case rel => exact ⟨i + 1, by have := HII.out; omega, by first | rfl | go_num, T, B, ⟨S3.out.st, by have := S3.out.B; omega, S3.out.wd, by have := S3.out.len; omega⟩⟩
      case measure => have := HII.out; simp [int2]; omega
    have hsn := S3.out.st.pb.sane
    have hpt1 := hsn.lp
    have hpt2 := hsn.ph
    rw [S3.out.wd.lo] at hpt1
    rw [S3.out.wd.hi] at hpt2
    have hle := S3.out.len
    have HPT := Lib.hid (⟨hpt1, hpt2, hle⟩ : _ ∧ _ ∧ _)
    have e8 : decide ((8 : Int) < K) = false := decide_eq_false h8
    have f8 : ((8 : Int) < K) = False := eq_false h8
    have HAll := Lib.hid (pAll S3.out.st.pb)
    have hkc : K = 0 ∨ K = 1 ∨ K = 2 ∨ K = 3 ∨ K = 4 ∨ K = 5 ∨ K = 6 ∨ K = 7 ∨ K = 8 := by omega
    obtain ⟨st, hst⟩ : ∃ st, st = encS T.cs := ⟨_, rfl⟩
    rw [← hst] at HAll
    have HST := Lib.hid hst
    clear hst hsn hpt1 hpt2 hle h8 hpp
    go_wp2_with fail
    refine HAll.out.mono ?_
    rintro r w4 ⟨rfl, hb4⟩
    have S4 := Lib.hid (S3.out.st.up hb4)
    have HW := Lib.hid (⟨S3.out.B, S3.out.wd, S3.out.len⟩ : _ ∧ _ ∧ _)
    have HPo := Lib.hid (bpoint S4.out.pb.r)
    obtain ⟨pt, hpt⟩ : ∃ pt, pt = T.S.pt := ⟨_, rfl⟩
    rw [← hpt] at HPo
    have HP := Lib.hid hpt
    clear hb4 HAll S3 hpt
    go_wp2_with fail
    refine HPo.out.mono ?_
    rintro r w5 ⟨rfl, hw5⟩
    have S5 := Lib.hid (hw5 ▸ S4.out)
    clear HPo S4 hw5
    obtain ⟨n, hn⟩ : ∃ n, n = T.cs.length := ⟨_, rfl⟩
    obtain ⟨n1, hn1⟩ : ∃ n1 : Nat, n1 = n + 1 := ⟨_, rfl⟩
    have sn : IntKind.i64.wrap ((n : Int) + 1) = (n1 : Int) := by rw [IntWalk.i64_in _ (by have := HPT.out.2.2; have := HII.out.2; omega)]; omega
    have HNn := Lib.hid (⟨hn, hn1⟩ : _ ∧ _)
    have hn3000 := Lib.hid (show T.cs.length ≤ 2500 by have := HPT.out.2.2; have := HII.out.2; omega)
    have ptE : 1 ≤ pt ∧ pt ≤ n + 1 := by rw [HP.out, hn]; exact ⟨HPT.out.1, HPT.out.2.1⟩
    have hpe := Lib.hid ptE
    have spt : IntKind.i64.wrap (pt : Int) = (pt : Int) := IntWalk.i64_in _ (by have := hn3000.out; omega)
    have est : (st.toList == st.toList) = true := by simp
    have HIR := Lib.hid hi
    clear hn hn1 ptE e8 f8 d1 d2 hi
    obtain ⟨ek, ea, eb, eid, enm, etx, eon, eal, evk, evn, esA, esp, esc⟩ := e
    have HTS : Hid (etx.size ≤ 60) := HTS
    have HK : Hid (K = pickI ek 32) := HK
    have hkc2 : (K = 0 ∨ K = 1 ∨ K = 2) ∨ K = 3 ∨ K = 4 ∨ K = 5 ∨ K = 6 ∨ (K = 7 ∨ K = 8) := by omega
    clear hkc
    rcases hkc2 with hk3 | rfl | rfl | rfl | rfl | hk3
    · as_aux_lemma =>
        by_cases hv : (charsD etx.data.toList).isSome = true
        case pos =>
          have HK3 := Lib.hid hk3
          have hK8 : K ≤ 8 := by omega
          have kf0 : ((K : Int) == 3) = false := by rw [beq_eq_false_iff_ne]; omega
          have kg0 : ((K : Int) = 3) = False := eq_false (by omega)
          have kf1 : decide ((3 : Int) < K) = false := decide_eq_false (by omega)
          have kg1 : ((3 : Int) < K) = False := eq_false (by omega)
          have kf2 : ((K : Int) == 4) = false := by rw [beq_eq_false_iff_ne]; omega
          have kg2 : ((K : Int) = 4) = False := eq_false (by omega)
          have kf3 : ((K : Int) == 5) = false := by rw [beq_eq_false_iff_ne]; omega
          have kg3 : ((K : Int) = 5) = False := eq_false (by omega)
          have kf4 : decide ((6 : Int) < K) = false := decide_eq_false (by omega)
          have kg4 : ((6 : Int) < K) = False := eq_false (by omega)
          have kf5 : decide ((K : Int) < 3) = true := decide_eq_true (by omega)
          have kg5 : ((K : Int) < 3) = True := eq_true (by omega)
          have kf6 : decide ((8 : Int) < K) = false := decide_eq_false (by omega)
          have kg6 : ((8 : Int) < K) = False := eq_false (by omega)
          clear hk3 hK8
          have HXY := Lib.hid trivial
          have hE1 : delE T 1 (pt : Int) = 0 := by unfold delE; rw [if_pos (reach_iff.2 (by rw [HW.out.2.1.lo, HW.out.2.1.hi]; have := hpe.out; have := HNn.out; have := HXY.out; have := HP.out; omega))]
          have hE2 : delE T (pt : Int) (n1 : Int) = 0 := by unfold delE; rw [if_pos (reach_iff.2 (by rw [HW.out.2.1.lo, HW.out.2.1.hi]; have := hpe.out; have := HNn.out; have := HXY.out; have := HP.out; omega))]
          have hEE : fitsE etx T.cs.length 0 = 0 := by rw [fits_short (by have := hn3000.out; omega) HTS.out (by omega), if_pos hv]
          have HV := Lib.hid hv
          clear hv
          obtain ⟨hd, hhd⟩ : ∃ hd, hd = textV T 1 (pt : Int) := ⟨_, rfl⟩
          obtain ⟨tl, htl⟩ : ∃ tl, tl = textV T (pt : Int) (n1 : Int) := ⟨_, rfl⟩
          have HG1 := Lib.hid (show ∀ W, Below w5.heap.size w5 W → Calls Tryz.prog 11 #[pAt b, .int .i64 1, .int .i64 (pt : Int)] W fun r w' => r = .returned (.tuple #[.string hd, .int .i64 0]) ∧ Below W.heap.size W w' from fun W hb => by
            have q := pText (S5.out.pb.up hb) 1 (pt : Int)
            rw [hE1, ← hhd] at q; exact q)
          have HG2 := Lib.hid (show ∀ W, Below w5.heap.size w5 W → Calls Tryz.prog 11 #[pAt b, .int .i64 (pt : Int), .int .i64 (n1 : Int)] W fun r w' => r = .returned (.tuple #[.string tl, .int .i64 0]) ∧ Below W.heap.size W w' from fun W hb => by
            have q := pText (S5.out.pb.up hb) (pt : Int) (n1 : Int)
            rw [hE2, ← htl] at q; exact q)
          have HSZ := Lib.hid (show ∀ W, Below w5.heap.size w5 W → Calls Tryz.prog 12 #[pAt b] W fun r w' => r = .returned (.int .i64 (n : Int)) ∧ Below W.heap.size W w' from fun W hb => by
            have q := bsize (S5.out.pb.up hb).r
            rw [← HNn.out.1] at q; exact q)
          have Hhd := Lib.hid hhd
          have Htl := Lib.hid htl
          obtain ⟨T2, hT2⟩ : ∃ T2 : Tx, T2 = insT T (chrs etx) (decide (K = 2)) := ⟨_, rfl⟩
          obtain ⟨BB, hBB⟩ : ∃ BB : Nat, BB = B + 4 := ⟨_, rfl⟩
          have HBB := Lib.hid hBB
          have HDO := Lib.hid (show ∀ W, St N w1 w1.heap.size b W T B → Calls Tryz.prog 13 #[pAt b, actV (⟨ek, ea, eb, eid, enm, etx, eon, eal, evk, evn, esA, esp, esc⟩ : AcE)] W (DoP N W b (fun k => w1.heap.size ≤ k) 0 T2 BB) from fun W hS => by
            have q := do_ins (e := (⟨ek, ea, eb, eid, enm, etx, eon, eal, evk, evn, esA, esp, esc⟩ : AcE)) (hS.tabs hN1.out (Nat.le_refl _) T1.out) (hS.rules hN1.out (Nat.le_refl _) R1.out) hS.pb (fun k hk => Nat.le_trans hN1.out hk) (by have := HW.out.1; have := HII.out.2; omega) HW.out.2.1.ro HTS.out (by rw [← HK.out]; exact HK3.out)
            rw [hEE] at q
            first | rw [if_pos rfl] at q | rw [if_neg (by decide)] at q
            try simp only [← HK.out] at q
            try simp only [Int.toNat_natCast] at q
            rw [← hBB, ← hT2] at q
            exact q)
          have HT2 := Lib.hid hT2
          clear hhd htl hT2 hBB hE1 hE2 hEE
          go_wp2_with fail
          refine (HG1.out _ (Below.refl _ w5)).mono ?_
          rintro r w6 ⟨rfl, hb6⟩
          have B6 := Lib.hid hb6
          clear hb6 HG1
          go_wp2_with fail
          refine (HSZ.out _ B6.out).mono ?_
          rintro r w7 ⟨rfl, hb7⟩
          have B7 := Lib.hid (up2 B6.out hb7)
          clear hb7
          go_wp2_with fail
          refine (HG2.out _ B7.out).mono ?_
          rintro r w8 ⟨rfl, hb8⟩
          have B8 := Lib.hid (up2 B7.out hb8)
          have S8 := Lib.hid (S5.out.up B8.out)
          clear hb8 HG2
          have aC := HC.out w8 S8.out.bl
          have a0 := aC.c0
          have a1 := aC.c1
          have a2 := aC.c2
          have a3 := aC.c3
          have a4 := aC.c4
          have a5 := aC.c5
          have a6 := aC.c6
          have a7 := aC.c7
          have a8 := aC.c8
          have a9 := aC.c9
          have a10 := aC.c10
          clear aC
          simp only at a0 a1 a2 a3 a4 a5 a6 a7 a8 a9 a10
          go_wp2_with fail
          refine (HDO.out w8 S8.out).mono ?_
          rintro r w9 ⟨rfl, ho9, hp9⟩
          have S9 := Lib.hid (S8.out.next ⟨ho9, hp9⟩)
          clear ho9 hp9 HDO a0 a1 a2 a3 a4 a5 a6 a7 a8 a9 a10
          have a5 : w9.cell? ⟨g, o2 + i * 11 + 5, none⟩ = some (.string etx) := (HC.out w9 S9.out.bl).c5
          go_wp2_with fail
          have HVL := Lib.hid (show Calls Tryz.prog 7 #[.string etx] w9 fun e w' => e = .returned (.bool true) ∧ Below w9.heap.size w9 w' from by
            have q := rvalid_any etx w9 (by first | (have := HTS.out; omega) | decide)
            rw [vld_chars] at q
            have hvv := HV.out
            rw [hvv] at q; exact q)
          refine HVL.out.mono ?_
          rintro r w10 ⟨rfl, hb10⟩
          have S10 := Lib.hid (S9.out.up hb10)
          clear hb10 HVL S9
          go_wp2_with fail
          obtain ⟨mm, hmm⟩ : ∃ mm : Nat, mm = (chrs etx).length := ⟨_, rfl⟩
          have HMM := Lib.hid (show lenR etx = mm from hmm.symm)
          have HMZ := Lib.hid (show mm ≤ 60 by have := chrs_len etx; have := HTS.out; omega)
          have HMC := Lib.hid hmm
          clear hmm
          obtain ⟨wt, hwt⟩ : ∃ wt : Nat, wt = pt + mm := ⟨_, rfl⟩
          have HWW := Lib.hid hwt
          have HWT := Lib.hid (show T2.S.pt = wt by rw [HT2.out, hwt]; rw [HP.out, HMC.out]; rfl)
          clear hwt
          have HLN := Lib.hid (show Calls Tryz.prog 14 #[.string etx] w10 fun e w' => e = .returned (.int .i64 (mm : Int)) ∧ Below w10.heap.size w10 w' from by
            have q := rlen_any etx w10 (by first | (have := HTS.out; omega) | decide)
            rw [HMM.out] at q; exact q)
          refine HLN.out.mono ?_
          rintro r w11 ⟨rfl, hb11⟩
          have S11 := Lib.hid (S10.out.up hb11)
          clear hb11 HLN S10
          have wadd : IntKind.i64.wrap ((pt : Int) + (mm : Int)) = (wt : Int) := by rw [IntWalk.i64_in _ (by have := hpe.out; have := hn3000.out; have := HNn.out; have := HXY.out; have := HMZ.out; omega)]; have := HWW.out; omega
          obtain ⟨al, hal⟩ : ∃ al, al = encS T2.cs := ⟨_, rfl⟩
          have hcat : hd ++ etx ++ tl = al := by
            rw [hal, HT2.out, Hhd.out, Htl.out, HNn.out.2, HNn.out.1]
            exact (by have q := parts_ins T (s := etx) (bf := (decide (K = 2))) (by rw [← HP.out]; exact hpe.out.1) HV.out; rw [← q, ← HP.out]; unfold head3 tail3 textV; rw [if_pos (reach_iff.2 (by rw [HW.out.2.1.lo, HW.out.2.1.hi]; have := hpe.out; have := HNn.out; have := HXY.out; have := HP.out; omega)), if_pos (reach_iff.2 (by rw [HW.out.2.1.lo, HW.out.2.1.hi]; have := hpe.out; have := HNn.out; have := HXY.out; have := HP.out; omega))]; rfl)
          obtain ⟨h2, hh2⟩ : ∃ h2, hd ++ etx = h2 := ⟨_, rfl⟩
          rw [hh2] at hcat
          have hz1 : hd.size ≤ 20000 := by rw [Hhd.out]; exact textV_le hn3000.out _ _
          have hz2 : tl.size ≤ 20000 := by rw [Htl.out]; exact textV_le hn3000.out _ _
          have htz : (etx : ByteArray).size ≤ 60 := by first | exact HTS.out | decide
          have hz3 : h2.size ≤ 20060 := by rw [← hh2, ByteArray.size_append]; omega
          have hs1 : hd.size + (etx : ByteArray).size ≤ 9223372036854775807 := by omega
          have hs2 : h2.size + tl.size ≤ 9223372036854775807 := by omega
          have eal2 : (al.toList == al.toList) = true := by simp
          have HAL := Lib.hid (show Calls Tryz.prog 9 #[pAt b] w11 fun r w' => r = .returned (.string al) ∧ Below w11.heap.size w11 w' from by
            have q := pAll S11.out.pb
            rw [← hal] at q; exact q)
          clear hal hz1 hz2 hz3 htz est
          go_wp2_with fail
          refine HAL.out.mono ?_
          rintro r w12 ⟨rfl, hb12⟩
          have S12 := Lib.hid (S11.out.up hb12)
          clear hb12 HAL S11
          go_wp2_with fail
          have hpo := bpoint S12.out.pb.r
          rw [HWT.out] at hpo
          refine hpo.mono ?_
          rintro r w13 ⟨rfl, hw13⟩
          have S13 := Lib.hid (hw13 ▸ S12.out)
          clear hpo S12 hw13
          go_wp2_with fail
          go_roundw
          case rel =>
            refine ⟨i + 1, by have := HII.out; omega, by first | rfl | go_num, T2, _, ⟨S13.out, by have := HW.out.1; have := hn3000.out; have := HBB.out; omega, ?_, ?_⟩⟩
            · rw [HT2.out]; exact HW.out.2.1.ins (by have := hpe.out; have := HP.out; omega) (by have := hpe.out; have := HP.out; have := HNn.out; omega)
            · rw [HT2.out]; rw [show (insT T (chrs etx) (decide (K = 2))).cs = insC T.cs T.S.pt (chrs etx) from putT_cs _ _ _ _, insC_len]; have := HW.out.2.2; have := chrs_len etx; have := HTS.out; omega
          case measure => have := HII.out; simp [int2]; omega
        case neg =>
          have HK3 := Lib.hid hk3
          have hK8 : K ≤ 8 := by omega
          have kf0 : ((K : Int) == 3) = false := by rw [beq_eq_false_iff_ne]; omega
          have kg0 : ((K : Int) = 3) = False := eq_false (by omega)
          have kf1 : decide ((3 : Int) < K) = false := decide_eq_false (by omega)
          have kg1 : ((3 : Int) < K) = False := eq_false (by omega)
          have kf2 : ((K : Int) == 4) = false := by rw [beq_eq_false_iff_ne]; omega
          have kg2 : ((K : Int) = 4) = False := eq_false (by omega)
          have kf3 : ((K : Int) == 5) = false := by rw [beq_eq_false_iff_ne]; omega
          have kg3 : ((K : Int) = 5) = False := eq_false (by omega)
          have kf4 : decide ((6 : Int) < K) = false := decide_eq_false (by omega)
          have kg4 : ((6 : Int) < K) = False := eq_false (by omega)
          have kf5 : decide ((K : Int) < 3) = true := decide_eq_true (by omega)
          have kg5 : ((K : Int) < 3) = True := eq_true (by omega)
          have kf6 : decide ((8 : Int) < K) = false := decide_eq_false (by omega)
          have kg6 : ((8 : Int) < K) = False := eq_false (by omega)
          clear hk3 hK8
          have HXY := Lib.hid trivial
          have hE1 : delE T 1 (pt : Int) = 0 := by unfold delE; rw [if_pos (reach_iff.2 (by rw [HW.out.2.1.lo, HW.out.2.1.hi]; have := hpe.out; have := HNn.out; have := HXY.out; have := HP.out; omega))]
          have hE2 : delE T (pt : Int) (n1 : Int) = 0 := by unfold delE; rw [if_pos (reach_iff.2 (by rw [HW.out.2.1.lo, HW.out.2.1.hi]; have := hpe.out; have := HNn.out; have := HXY.out; have := HP.out; omega))]
          have hEE : fitsE etx T.cs.length 0 = 5 := by rw [fits_short (by have := hn3000.out; omega) HTS.out (by omega), if_neg hv]
          have HV := Lib.hid hv
          clear hv
          obtain ⟨hd, hhd⟩ : ∃ hd, hd = textV T 1 (pt : Int) := ⟨_, rfl⟩
          obtain ⟨tl, htl⟩ : ∃ tl, tl = textV T (pt : Int) (n1 : Int) := ⟨_, rfl⟩
          have HG1 := Lib.hid (show ∀ W, Below w5.heap.size w5 W → Calls Tryz.prog 11 #[pAt b, .int .i64 1, .int .i64 (pt : Int)] W fun r w' => r = .returned (.tuple #[.string hd, .int .i64 0]) ∧ Below W.heap.size W w' from fun W hb => by
            have q := pText (S5.out.pb.up hb) 1 (pt : Int)
            rw [hE1, ← hhd] at q; exact q)
          have HG2 := Lib.hid (show ∀ W, Below w5.heap.size w5 W → Calls Tryz.prog 11 #[pAt b, .int .i64 (pt : Int), .int .i64 (n1 : Int)] W fun r w' => r = .returned (.tuple #[.string tl, .int .i64 0]) ∧ Below W.heap.size W w' from fun W hb => by
            have q := pText (S5.out.pb.up hb) (pt : Int) (n1 : Int)
            rw [hE2, ← htl] at q; exact q)
          have HSZ := Lib.hid (show ∀ W, Below w5.heap.size w5 W → Calls Tryz.prog 12 #[pAt b] W fun r w' => r = .returned (.int .i64 (n : Int)) ∧ Below W.heap.size W w' from fun W hb => by
            have q := bsize (S5.out.pb.up hb).r
            rw [← HNn.out.1] at q; exact q)
          have Hhd := Lib.hid hhd
          have Htl := Lib.hid htl
          obtain ⟨T2, hT2⟩ : ∃ T2 : Tx, T2 = T := ⟨_, rfl⟩
          obtain ⟨BB, hBB⟩ : ∃ BB : Nat, BB = B + 4 := ⟨_, rfl⟩
          have HBB := Lib.hid hBB
          have HDO := Lib.hid (show ∀ W, St N w1 w1.heap.size b W T B → Calls Tryz.prog 13 #[pAt b, actV (⟨ek, ea, eb, eid, enm, etx, eon, eal, evk, evn, esA, esp, esc⟩ : AcE)] W (DoP N W b (fun k => w1.heap.size ≤ k) 5 T2 BB) from fun W hS => by
            have q := do_ins (e := (⟨ek, ea, eb, eid, enm, etx, eon, eal, evk, evn, esA, esp, esc⟩ : AcE)) (hS.tabs hN1.out (Nat.le_refl _) T1.out) (hS.rules hN1.out (Nat.le_refl _) R1.out) hS.pb (fun k hk => Nat.le_trans hN1.out hk) (by have := HW.out.1; have := HII.out.2; omega) HW.out.2.1.ro HTS.out (by rw [← HK.out]; exact HK3.out)
            rw [hEE] at q
            first | rw [if_pos rfl] at q | rw [if_neg (by decide)] at q
            try simp only [← HK.out] at q
            try simp only [Int.toNat_natCast] at q
            rw [← hBB, ← hT2] at q
            exact q)
          have HT2 := Lib.hid hT2
          clear hhd htl hT2 hBB hE1 hE2 hEE
          go_wp2_with fail
          refine (HG1.out _ (Below.refl _ w5)).mono ?_
          rintro r w6 ⟨rfl, hb6⟩
          have B6 := Lib.hid hb6
          clear hb6 HG1
          go_wp2_with fail
          refine (HSZ.out _ B6.out).mono ?_
          rintro r w7 ⟨rfl, hb7⟩
          have B7 := Lib.hid (up2 B6.out hb7)
          clear hb7
          go_wp2_with fail
          refine (HG2.out _ B7.out).mono ?_
          rintro r w8 ⟨rfl, hb8⟩
          have B8 := Lib.hid (up2 B7.out hb8)
          have S8 := Lib.hid (S5.out.up B8.out)
          clear hb8 HG2
          have aC := HC.out w8 S8.out.bl
          have a0 := aC.c0
          have a1 := aC.c1
          have a2 := aC.c2
          have a3 := aC.c3
          have a4 := aC.c4
          have a5 := aC.c5
          have a6 := aC.c6
          have a7 := aC.c7
          have a8 := aC.c8
          have a9 := aC.c9
          have a10 := aC.c10
          clear aC
          simp only at a0 a1 a2 a3 a4 a5 a6 a7 a8 a9 a10
          go_wp2_with fail
          refine (HDO.out w8 S8.out).mono ?_
          rintro r w9 ⟨rfl, ho9, hp9⟩
          have S9 := Lib.hid (S8.out.next ⟨ho9, hp9⟩)
          clear ho9 hp9 HDO a0 a1 a2 a3 a4 a5 a6 a7 a8 a9 a10
          have a5 : w9.cell? ⟨g, o2 + i * 11 + 5, none⟩ = some (.string etx) := (HC.out w9 S9.out.bl).c5
          go_wp2_with fail
          have HVL := Lib.hid (show Calls Tryz.prog 7 #[.string etx] w9 fun e w' => e = .returned (.bool false) ∧ Below w9.heap.size w9 w' from by
            have q := rvalid_any etx w9 (by first | (have := HTS.out; omega) | decide)
            rw [vld_chars] at q
            have hvv : (charsD etx.data.toList).isSome = false := by simpa using HV.out
            rw [hvv] at q; exact q)
          refine HVL.out.mono ?_
          rintro r w10 ⟨rfl, hb10⟩
          have S10 := Lib.hid (S9.out.up hb10)
          clear hb10 HVL S9
          go_wp2_with fail
          rw [HT2.out] at S10
          have hal := pAll S10.out.pb
          rw [← HST.out] at hal
          refine hal.mono ?_
          rintro r w11 ⟨rfl, hb11⟩
          have S11 := Lib.hid (S10.out.up hb11)
          clear hb11 hal S10
          go_wp2_with fail
          have hpo := bpoint S11.out.pb.r
          rw [← HP.out] at hpo
          refine hpo.mono ?_
          rintro r w12 ⟨rfl, hw12⟩
          have S12 := Lib.hid (hw12 ▸ S11.out)
          clear hpo S11 hw12
          go_wp2_with fail
          go_roundw
          case rel => exact ⟨i + 1, by have := HII.out; omega, by first | rfl | go_num, T, _, ⟨S12.out, by have := HW.out.1; have := hn3000.out; have := HBB.out; omega, HW.out.2.1, by have := HW.out.2.2; omega⟩⟩
          case measure => have := HII.out; simp [int2]; omega
    · as_aux_lemma =>
        by_cases hq : 1 ≤ ea ∧ ea ≤ (n : Int) + 1
        case pos =>
          obtain ⟨x, rfl⟩ : ∃ x : Nat, ea = x := ⟨ea.toNat, by omega⟩
          have HXY := Lib.hid (show 1 ≤ x ∧ x ≤ n + 1 by omega)
          clear hq
          by_cases hv : (charsD etx.data.toList).isSome = true
          case pos =>
            have HV := Lib.hid hv
            clear hv
            by_cases hc : x < pt
            case pos =>
              have HCS := Lib.hid hc
              clear hc
              have hE1 : delE T 1 (x : Int) = 0 := by unfold delE; rw [if_pos (reach_iff.2 (by rw [HW.out.2.1.lo, HW.out.2.1.hi]; have := hpe.out; have := HNn.out; have := HXY.out; have := HP.out; omega))]
              have hE2 : delE T (x : Int) (n1 : Int) = 0 := by unfold delE; rw [if_pos (reach_iff.2 (by rw [HW.out.2.1.lo, HW.out.2.1.hi]; have := hpe.out; have := HNn.out; have := HXY.out; have := HP.out; omega))]
              have hEE : putEr T (x : Int) etx = 0 := by unfold putEr; rw [if_pos (reach_iff.2 (by rw [HW.out.2.1.lo, HW.out.2.1.hi]; have := hpe.out; have := HNn.out; have := HXY.out; have := HP.out; omega)), fits_short (by have := hn3000.out; omega) HTS.out (by omega), if_pos HV.out]
              obtain ⟨hd, hhd⟩ : ∃ hd, hd = textV T 1 (x : Int) := ⟨_, rfl⟩
              obtain ⟨tl, htl⟩ : ∃ tl, tl = textV T (x : Int) (n1 : Int) := ⟨_, rfl⟩
              have HG1 := Lib.hid (show ∀ W, Below w5.heap.size w5 W → Calls Tryz.prog 11 #[pAt b, .int .i64 1, .int .i64 (x : Int)] W fun r w' => r = .returned (.tuple #[.string hd, .int .i64 0]) ∧ Below W.heap.size W w' from fun W hb => by
                have q := pText (S5.out.pb.up hb) 1 (x : Int)
                rw [hE1, ← hhd] at q; exact q)
              have HG2 := Lib.hid (show ∀ W, Below w5.heap.size w5 W → Calls Tryz.prog 11 #[pAt b, .int .i64 (x : Int), .int .i64 (n1 : Int)] W fun r w' => r = .returned (.tuple #[.string tl, .int .i64 0]) ∧ Below W.heap.size W w' from fun W hb => by
                have q := pText (S5.out.pb.up hb) (x : Int) (n1 : Int)
                rw [hE2, ← htl] at q; exact q)
              have HSZ := Lib.hid (show ∀ W, Below w5.heap.size w5 W → Calls Tryz.prog 12 #[pAt b] W fun r w' => r = .returned (.int .i64 (n : Int)) ∧ Below W.heap.size W w' from fun W hb => by
                have q := bsize (S5.out.pb.up hb).r
                rw [← HNn.out.1] at q; exact q)
              have Hhd := Lib.hid hhd
              have Htl := Lib.hid htl
              obtain ⟨T2, hT2⟩ : ∃ T2 : Tx, T2 = putT T x (chrs etx) false := ⟨_, rfl⟩
              obtain ⟨BB, hBB⟩ : ∃ BB : Nat, BB = B + 4 := ⟨_, rfl⟩
              have HBB := Lib.hid hBB
              have HDO := Lib.hid (show ∀ W, St N w1 w1.heap.size b W T B → Calls Tryz.prog 13 #[pAt b, actV (⟨ek, (x : Int), eb, eid, enm, etx, eon, eal, evk, evn, esA, esp, esc⟩ : AcE)] W (DoP N W b (fun k => w1.heap.size ≤ k) 0 T2 BB) from fun W hS => by
                have q := do_put3 (e := (⟨ek, (x : Int), eb, eid, enm, etx, eon, eal, evk, evn, esA, esp, esc⟩ : AcE)) (hS.tabs hN1.out (Nat.le_refl _) T1.out) (hS.rules hN1.out (Nat.le_refl _) R1.out) hS.pb (fun k hk => Nat.le_trans hN1.out hk) (by have := HW.out.1; have := HII.out.2; omega) HW.out.2.1.ro HTS.out (HK.out.symm)
                rw [hEE] at q
                first | rw [if_pos rfl] at q | rw [if_neg (by decide)] at q
                try simp only [← HK.out] at q
                try simp only [Int.toNat_natCast] at q
                rw [← hBB, ← hT2] at q
                exact q)
              have HT2 := Lib.hid hT2
              clear hhd htl hT2 hBB hE1 hE2 hEE
              have a1 := (HC.out w5 S5.out.bl).c1
              have a2 := (HC.out w5 S5.out.bl).c2
              go_wp2_with fail
              go_region
              go_wp2_with fail
              clear a1 a2
              refine (HG1.out _ (Below.refl _ w5).drew).mono ?_
              rintro r w6 ⟨rfl, hb6⟩
              have B6 := Lib.hid (show Below w5.heap.size w5 w6 from ((Below.refl _ w5).drew).trans hb6)
              clear hb6 HG1
              go_wp2_with fail
              refine (HSZ.out _ B6.out).mono ?_
              rintro r w7 ⟨rfl, hb7⟩
              have B7 := Lib.hid (up2 B6.out hb7)
              clear hb7
              go_wp2_with fail
              refine (HG2.out _ B7.out).mono ?_
              rintro r w8 ⟨rfl, hb8⟩
              have B8 := Lib.hid (up2 B7.out hb8)
              have S8 := Lib.hid (S5.out.up B8.out)
              clear hb8 HG2
              have aC := HC.out w8 S8.out.bl
              have a0 := aC.c0
              have a1 := aC.c1
              have a2 := aC.c2
              have a3 := aC.c3
              have a4 := aC.c4
              have a5 := aC.c5
              have a6 := aC.c6
              have a7 := aC.c7
              have a8 := aC.c8
              have a9 := aC.c9
              have a10 := aC.c10
              clear aC
              simp only at a0 a1 a2 a3 a4 a5 a6 a7 a8 a9 a10
              go_wp2_with fail
              refine (HDO.out w8 S8.out).mono ?_
              rintro r w9 ⟨rfl, ho9, hp9⟩
              have S9 := Lib.hid (S8.out.next ⟨ho9, hp9⟩)
              clear ho9 hp9 HDO a0 a1 a2 a3 a4 a5 a6 a7 a8 a9 a10
              have a5 : w9.cell? ⟨g, o2 + i * 11 + 5, none⟩ = some (.string etx) := (HC.out w9 S9.out.bl).c5
              go_wp2_with fail
              have HVL := Lib.hid (show Calls Tryz.prog 7 #[.string etx] w9 fun e w' => e = .returned (.bool true) ∧ Below w9.heap.size w9 w' from by
                have q := rvalid_any etx w9 (by first | (have := HTS.out; omega) | decide)
                rw [vld_chars] at q
                have hvv := HV.out
                rw [hvv] at q; exact q)
              refine HVL.out.mono ?_
              rintro r w10 ⟨rfl, hb10⟩
              have S10 := Lib.hid (S9.out.up hb10)
              clear hb10 HVL S9
              go_wp2_with fail
              obtain ⟨mm, hmm⟩ : ∃ mm : Nat, mm = (chrs etx).length := ⟨_, rfl⟩
              have HMM := Lib.hid (show lenR etx = mm from hmm.symm)
              have HMZ := Lib.hid (show mm ≤ 60 by have := chrs_len etx; have := HTS.out; omega)
              have HMC := Lib.hid hmm
              clear hmm
              obtain ⟨wt, hwt⟩ : ∃ wt : Nat, wt = pt + mm := ⟨_, rfl⟩
              have HWW := Lib.hid hwt
              have HWT := Lib.hid (show T2.S.pt = wt by rw [HT2.out, hwt]; rw [putT_pt, ← HMC.out, ← HP.out]; unfold insN; have := hpe.out; have := hn3000.out; have := HNn.out; have := HXY.out; have := HCS.out; simp only [Bool.false_eq_true, and_false, or_false]; (repeat' split) <;> omega)
              clear hwt
              have HLN := Lib.hid (show Calls Tryz.prog 14 #[.string etx] w10 fun e w' => e = .returned (.int .i64 (mm : Int)) ∧ Below w10.heap.size w10 w' from by
                have q := rlen_any etx w10 (by first | (have := HTS.out; omega) | decide)
                rw [HMM.out] at q; exact q)
              refine HLN.out.mono ?_
              rintro r w11 ⟨rfl, hb11⟩
              have S11 := Lib.hid (S10.out.up hb11)
              clear hb11 HLN S10
              have q1 : decide (((x : Nat) : Int) ≤ ((pt : Nat) : Int)) = true := decide_eq_true (by have := HCS.out; omega)
              have q2 : (((x : Nat) : Int) ≤ ((pt : Nat) : Int)) = True := eq_true (by have := HCS.out; omega)
              have q3 : (x ≤ pt) = True := eq_true (by have := HCS.out; omega)
              have p1 : decide (((x : Nat) : Int) < ((pt : Nat) : Int)) = true := decide_eq_true (by have := HCS.out; omega)
              have p2 : (((x : Nat) : Int) < ((pt : Nat) : Int)) = True := eq_true (by have := HCS.out; omega)
              have p3 : (x < pt) = True := eq_true (by have := HCS.out; omega)
              have wadd : IntKind.i64.wrap ((pt : Int) + (mm : Int)) = (wt : Int) := by rw [IntWalk.i64_in _ (by have := hpe.out; have := hn3000.out; have := HNn.out; have := HXY.out; have := HMZ.out; omega)]; have := HWW.out; omega
              obtain ⟨al, hal⟩ : ∃ al, al = encS T2.cs := ⟨_, rfl⟩
              have hcat : hd ++ etx ++ tl = al := by
                rw [hal, HT2.out, Hhd.out, Htl.out, HNn.out.2, HNn.out.1]
                exact (by have q := parts_put T (s := etx) (bf := false) (show 1 ≤ x by have := HXY.out; omega) HV.out; rw [← q]; unfold head3 tail3 textV; rw [if_pos (reach_iff.2 (by rw [HW.out.2.1.lo, HW.out.2.1.hi]; have := hpe.out; have := HNn.out; have := HXY.out; have := HP.out; omega)), if_pos (reach_iff.2 (by rw [HW.out.2.1.lo, HW.out.2.1.hi]; have := hpe.out; have := HNn.out; have := HXY.out; have := HP.out; omega))]; rfl)
              obtain ⟨h2, hh2⟩ : ∃ h2, hd ++ etx = h2 := ⟨_, rfl⟩
              rw [hh2] at hcat
              have hz1 : hd.size ≤ 20000 := by rw [Hhd.out]; exact textV_le hn3000.out _ _
              have hz2 : tl.size ≤ 20000 := by rw [Htl.out]; exact textV_le hn3000.out _ _
              have htz : (etx : ByteArray).size ≤ 60 := by first | exact HTS.out | decide
              have hz3 : h2.size ≤ 20060 := by rw [← hh2, ByteArray.size_append]; omega
              have hs1 : hd.size + (etx : ByteArray).size ≤ 9223372036854775807 := by omega
              have hs2 : h2.size + tl.size ≤ 9223372036854775807 := by omega
              have eal2 : (al.toList == al.toList) = true := by simp
              have HAL := Lib.hid (show Calls Tryz.prog 9 #[pAt b] w11 fun r w' => r = .returned (.string al) ∧ Below w11.heap.size w11 w' from by
                have q := pAll S11.out.pb
                rw [← hal] at q; exact q)
              clear hal hz1 hz2 hz3 htz est
              go_wp2_with fail
              refine HAL.out.mono ?_
              rintro r w12 ⟨rfl, hb12⟩
              have S12 := Lib.hid (S11.out.up hb12)
              clear hb12 HAL S11
              go_wp2_with fail
              have hpo := bpoint S12.out.pb.r
              rw [HWT.out] at hpo
              refine hpo.mono ?_
              rintro r w13 ⟨rfl, hw13⟩
              have S13 := Lib.hid (hw13 ▸ S12.out)
              clear hpo S12 hw13
              go_wp2_with fail
              go_roundw
              case rel =>
                refine ⟨i + 1, by have := HII.out; omega, by first | rfl | go_num, T2, _, ⟨S13.out, by have := HW.out.1; have := hn3000.out; have := HBB.out; omega, ?_, ?_⟩⟩
                · rw [HT2.out]; exact HW.out.2.1.put (by have := HXY.out; omega) (by have := HXY.out; have := HNn.out; omega)
                · rw [HT2.out]; rw [putT_cs, insC_len]; have := HW.out.2.2; have := chrs_len etx; have := HTS.out; omega
              case measure => have := HII.out; simp [int2]; omega
            case neg =>
              by_cases hc2 : x = pt
              case pos =>
                have HCS := Lib.hid hc2
                clear hc hc2
                have hE1 : delE T 1 (x : Int) = 0 := by unfold delE; rw [if_pos (reach_iff.2 (by rw [HW.out.2.1.lo, HW.out.2.1.hi]; have := hpe.out; have := HNn.out; have := HXY.out; have := HP.out; omega))]
                have hE2 : delE T (x : Int) (n1 : Int) = 0 := by unfold delE; rw [if_pos (reach_iff.2 (by rw [HW.out.2.1.lo, HW.out.2.1.hi]; have := hpe.out; have := HNn.out; have := HXY.out; have := HP.out; omega))]
                have hEE : putEr T (x : Int) etx = 0 := by unfold putEr; rw [if_pos (reach_iff.2 (by rw [HW.out.2.1.lo, HW.out.2.1.hi]; have := hpe.out; have := HNn.out; have := HXY.out; have := HP.out; omega)), fits_short (by have := hn3000.out; omega) HTS.out (by omega), if_pos HV.out]
                obtain ⟨hd, hhd⟩ : ∃ hd, hd = textV T 1 (x : Int) := ⟨_, rfl⟩
                obtain ⟨tl, htl⟩ : ∃ tl, tl = textV T (x : Int) (n1 : Int) := ⟨_, rfl⟩
                have HG1 := Lib.hid (show ∀ W, Below w5.heap.size w5 W → Calls Tryz.prog 11 #[pAt b, .int .i64 1, .int .i64 (x : Int)] W fun r w' => r = .returned (.tuple #[.string hd, .int .i64 0]) ∧ Below W.heap.size W w' from fun W hb => by
                  have q := pText (S5.out.pb.up hb) 1 (x : Int)
                  rw [hE1, ← hhd] at q; exact q)
                have HG2 := Lib.hid (show ∀ W, Below w5.heap.size w5 W → Calls Tryz.prog 11 #[pAt b, .int .i64 (x : Int), .int .i64 (n1 : Int)] W fun r w' => r = .returned (.tuple #[.string tl, .int .i64 0]) ∧ Below W.heap.size W w' from fun W hb => by
                  have q := pText (S5.out.pb.up hb) (x : Int) (n1 : Int)
                  rw [hE2, ← htl] at q; exact q)
                have HSZ := Lib.hid (show ∀ W, Below w5.heap.size w5 W → Calls Tryz.prog 12 #[pAt b] W fun r w' => r = .returned (.int .i64 (n : Int)) ∧ Below W.heap.size W w' from fun W hb => by
                  have q := bsize (S5.out.pb.up hb).r
                  rw [← HNn.out.1] at q; exact q)
                have Hhd := Lib.hid hhd
                have Htl := Lib.hid htl
                obtain ⟨T2, hT2⟩ : ∃ T2 : Tx, T2 = putT T x (chrs etx) false := ⟨_, rfl⟩
                obtain ⟨BB, hBB⟩ : ∃ BB : Nat, BB = B + 4 := ⟨_, rfl⟩
                have HBB := Lib.hid hBB
                have HDO := Lib.hid (show ∀ W, St N w1 w1.heap.size b W T B → Calls Tryz.prog 13 #[pAt b, actV (⟨ek, (x : Int), eb, eid, enm, etx, eon, eal, evk, evn, esA, esp, esc⟩ : AcE)] W (DoP N W b (fun k => w1.heap.size ≤ k) 0 T2 BB) from fun W hS => by
                  have q := do_put3 (e := (⟨ek, (x : Int), eb, eid, enm, etx, eon, eal, evk, evn, esA, esp, esc⟩ : AcE)) (hS.tabs hN1.out (Nat.le_refl _) T1.out) (hS.rules hN1.out (Nat.le_refl _) R1.out) hS.pb (fun k hk => Nat.le_trans hN1.out hk) (by have := HW.out.1; have := HII.out.2; omega) HW.out.2.1.ro HTS.out (HK.out.symm)
                  rw [hEE] at q
                  first | rw [if_pos rfl] at q | rw [if_neg (by decide)] at q
                  try simp only [← HK.out] at q
                  try simp only [Int.toNat_natCast] at q
                  rw [← hBB, ← hT2] at q
                  exact q)
                have HT2 := Lib.hid hT2
                clear hhd htl hT2 hBB hE1 hE2 hEE
                have a1 := (HC.out w5 S5.out.bl).c1
                have a2 := (HC.out w5 S5.out.bl).c2
                go_wp2_with fail
                go_region
                go_wp2_with fail
                clear a1 a2
                refine (HG1.out _ (Below.refl _ w5).drew).mono ?_
                rintro r w6 ⟨rfl, hb6⟩
                have B6 := Lib.hid (show Below w5.heap.size w5 w6 from ((Below.refl _ w5).drew).trans hb6)
                clear hb6 HG1
                go_wp2_with fail
                refine (HSZ.out _ B6.out).mono ?_
                rintro r w7 ⟨rfl, hb7⟩
                have B7 := Lib.hid (up2 B6.out hb7)
                clear hb7
                go_wp2_with fail
                refine (HG2.out _ B7.out).mono ?_
                rintro r w8 ⟨rfl, hb8⟩
                have B8 := Lib.hid (up2 B7.out hb8)
                have S8 := Lib.hid (S5.out.up B8.out)
                clear hb8 HG2
                have aC := HC.out w8 S8.out.bl
                have a0 := aC.c0
                have a1 := aC.c1
                have a2 := aC.c2
                have a3 := aC.c3
                have a4 := aC.c4
                have a5 := aC.c5
                have a6 := aC.c6
                have a7 := aC.c7
                have a8 := aC.c8
                have a9 := aC.c9
                have a10 := aC.c10
                clear aC
                simp only at a0 a1 a2 a3 a4 a5 a6 a7 a8 a9 a10
                go_wp2_with fail
                refine (HDO.out w8 S8.out).mono ?_
                rintro r w9 ⟨rfl, ho9, hp9⟩
                have S9 := Lib.hid (S8.out.next ⟨ho9, hp9⟩)
                clear ho9 hp9 HDO a0 a1 a2 a3 a4 a5 a6 a7 a8 a9 a10
                have a5 : w9.cell? ⟨g, o2 + i * 11 + 5, none⟩ = some (.string etx) := (HC.out w9 S9.out.bl).c5
                go_wp2_with fail
                have HVL := Lib.hid (show Calls Tryz.prog 7 #[.string etx] w9 fun e w' => e = .returned (.bool true) ∧ Below w9.heap.size w9 w' from by
                  have q := rvalid_any etx w9 (by first | (have := HTS.out; omega) | decide)
                  rw [vld_chars] at q
                  have hvv := HV.out
                  rw [hvv] at q; exact q)
                refine HVL.out.mono ?_
                rintro r w10 ⟨rfl, hb10⟩
                have S10 := Lib.hid (S9.out.up hb10)
                clear hb10 HVL S9
                go_wp2_with fail
                obtain ⟨mm, hmm⟩ : ∃ mm : Nat, mm = (chrs etx).length := ⟨_, rfl⟩
                have HMM := Lib.hid (show lenR etx = mm from hmm.symm)
                have HMZ := Lib.hid (show mm ≤ 60 by have := chrs_len etx; have := HTS.out; omega)
                have HMC := Lib.hid hmm
                clear hmm
                have HWT := Lib.hid (show T2.S.pt = pt by rw [HT2.out]; rw [putT_pt, ← HMC.out, ← HP.out]; unfold insN; have := hpe.out; have := hn3000.out; have := HNn.out; have := HXY.out; have := HCS.out; simp only [Bool.false_eq_true, and_false, or_false]; (repeat' split) <;> omega)
                have HLN := Lib.hid (show Calls Tryz.prog 14 #[.string etx] w10 fun e w' => e = .returned (.int .i64 (mm : Int)) ∧ Below w10.heap.size w10 w' from by
                  have q := rlen_any etx w10 (by first | (have := HTS.out; omega) | decide)
                  rw [HMM.out] at q; exact q)
                refine HLN.out.mono ?_
                rintro r w11 ⟨rfl, hb11⟩
                have S11 := Lib.hid (S10.out.up hb11)
                clear hb11 HLN S10
                have q1 : decide (((x : Nat) : Int) ≤ ((pt : Nat) : Int)) = true := decide_eq_true (by have := HCS.out; omega)
                have q2 : (((x : Nat) : Int) ≤ ((pt : Nat) : Int)) = True := eq_true (by have := HCS.out; omega)
                have q3 : (x ≤ pt) = True := eq_true (by have := HCS.out; omega)
                have p1 : decide (((x : Nat) : Int) < ((pt : Nat) : Int)) = false := decide_eq_false (by have := HCS.out; omega)
                have p2 : (((x : Nat) : Int) < ((pt : Nat) : Int)) = False := eq_false (by have := HCS.out; omega)
                have p3 : (x < pt) = False := eq_false (by have := HCS.out; omega)
                obtain ⟨al, hal⟩ : ∃ al, al = encS T2.cs := ⟨_, rfl⟩
                have hcat : hd ++ etx ++ tl = al := by
                  rw [hal, HT2.out, Hhd.out, Htl.out, HNn.out.2, HNn.out.1]
                  exact (by have q := parts_put T (s := etx) (bf := false) (show 1 ≤ x by have := HXY.out; omega) HV.out; rw [← q]; unfold head3 tail3 textV; rw [if_pos (reach_iff.2 (by rw [HW.out.2.1.lo, HW.out.2.1.hi]; have := hpe.out; have := HNn.out; have := HXY.out; have := HP.out; omega)), if_pos (reach_iff.2 (by rw [HW.out.2.1.lo, HW.out.2.1.hi]; have := hpe.out; have := HNn.out; have := HXY.out; have := HP.out; omega))]; rfl)
                obtain ⟨h2, hh2⟩ : ∃ h2, hd ++ etx = h2 := ⟨_, rfl⟩
                rw [hh2] at hcat
                have hz1 : hd.size ≤ 20000 := by rw [Hhd.out]; exact textV_le hn3000.out _ _
                have hz2 : tl.size ≤ 20000 := by rw [Htl.out]; exact textV_le hn3000.out _ _
                have htz : (etx : ByteArray).size ≤ 60 := by first | exact HTS.out | decide
                have hz3 : h2.size ≤ 20060 := by rw [← hh2, ByteArray.size_append]; omega
                have hs1 : hd.size + (etx : ByteArray).size ≤ 9223372036854775807 := by omega
                have hs2 : h2.size + tl.size ≤ 9223372036854775807 := by omega
                have eal2 : (al.toList == al.toList) = true := by simp
                have HAL := Lib.hid (show Calls Tryz.prog 9 #[pAt b] w11 fun r w' => r = .returned (.string al) ∧ Below w11.heap.size w11 w' from by
                  have q := pAll S11.out.pb
                  rw [← hal] at q; exact q)
                clear hal hz1 hz2 hz3 htz est
                go_wp2_with fail
                refine HAL.out.mono ?_
                rintro r w12 ⟨rfl, hb12⟩
                have S12 := Lib.hid (S11.out.up hb12)
                clear hb12 HAL S11
                go_wp2_with fail
                have hpo := bpoint S12.out.pb.r
                rw [HWT.out] at hpo
                refine hpo.mono ?_
                rintro r w13 ⟨rfl, hw13⟩
                have S13 := Lib.hid (hw13 ▸ S12.out)
                clear hpo S12 hw13
                go_wp2_with fail
                go_roundw
                case rel =>
                  refine ⟨i + 1, by have := HII.out; omega, by first | rfl | go_num, T2, _, ⟨S13.out, by have := HW.out.1; have := hn3000.out; have := HBB.out; omega, ?_, ?_⟩⟩
                  · rw [HT2.out]; exact HW.out.2.1.put (by have := HXY.out; omega) (by have := HXY.out; have := HNn.out; omega)
                  · rw [HT2.out]; rw [putT_cs, insC_len]; have := HW.out.2.2; have := chrs_len etx; have := HTS.out; omega
                case measure => have := HII.out; simp [int2]; omega
              case neg =>
                have HCS := Lib.hid (show pt < x by omega)
                clear hc hc2
                have hE1 : delE T 1 (x : Int) = 0 := by unfold delE; rw [if_pos (reach_iff.2 (by rw [HW.out.2.1.lo, HW.out.2.1.hi]; have := hpe.out; have := HNn.out; have := HXY.out; have := HP.out; omega))]
                have hE2 : delE T (x : Int) (n1 : Int) = 0 := by unfold delE; rw [if_pos (reach_iff.2 (by rw [HW.out.2.1.lo, HW.out.2.1.hi]; have := hpe.out; have := HNn.out; have := HXY.out; have := HP.out; omega))]
                have hEE : putEr T (x : Int) etx = 0 := by unfold putEr; rw [if_pos (reach_iff.2 (by rw [HW.out.2.1.lo, HW.out.2.1.hi]; have := hpe.out; have := HNn.out; have := HXY.out; have := HP.out; omega)), fits_short (by have := hn3000.out; omega) HTS.out (by omega), if_pos HV.out]
                obtain ⟨hd, hhd⟩ : ∃ hd, hd = textV T 1 (x : Int) := ⟨_, rfl⟩
                obtain ⟨tl, htl⟩ : ∃ tl, tl = textV T (x : Int) (n1 : Int) := ⟨_, rfl⟩
                have HG1 := Lib.hid (show ∀ W, Below w5.heap.size w5 W → Calls Tryz.prog 11 #[pAt b, .int .i64 1, .int .i64 (x : Int)] W fun r w' => r = .returned (.tuple #[.string hd, .int .i64 0]) ∧ Below W.heap.size W w' from fun W hb => by
                  have q := pText (S5.out.pb.up hb) 1 (x : Int)
                  rw [hE1, ← hhd] at q; exact q)
                have HG2 := Lib.hid (show ∀ W, Below w5.heap.size w5 W → Calls Tryz.prog 11 #[pAt b, .int .i64 (x : Int), .int .i64 (n1 : Int)] W fun r w' => r = .returned (.tuple #[.string tl, .int .i64 0]) ∧ Below W.heap.size W w' from fun W hb => by
                  have q := pText (S5.out.pb.up hb) (x : Int) (n1 : Int)
                  rw [hE2, ← htl] at q; exact q)
                have HSZ := Lib.hid (show ∀ W, Below w5.heap.size w5 W → Calls Tryz.prog 12 #[pAt b] W fun r w' => r = .returned (.int .i64 (n : Int)) ∧ Below W.heap.size W w' from fun W hb => by
                  have q := bsize (S5.out.pb.up hb).r
                  rw [← HNn.out.1] at q; exact q)
                have Hhd := Lib.hid hhd
                have Htl := Lib.hid htl
                obtain ⟨T2, hT2⟩ : ∃ T2 : Tx, T2 = putT T x (chrs etx) false := ⟨_, rfl⟩
                obtain ⟨BB, hBB⟩ : ∃ BB : Nat, BB = B + 4 := ⟨_, rfl⟩
                have HBB := Lib.hid hBB
                have HDO := Lib.hid (show ∀ W, St N w1 w1.heap.size b W T B → Calls Tryz.prog 13 #[pAt b, actV (⟨ek, (x : Int), eb, eid, enm, etx, eon, eal, evk, evn, esA, esp, esc⟩ : AcE)] W (DoP N W b (fun k => w1.heap.size ≤ k) 0 T2 BB) from fun W hS => by
                  have q := do_put3 (e := (⟨ek, (x : Int), eb, eid, enm, etx, eon, eal, evk, evn, esA, esp, esc⟩ : AcE)) (hS.tabs hN1.out (Nat.le_refl _) T1.out) (hS.rules hN1.out (Nat.le_refl _) R1.out) hS.pb (fun k hk => Nat.le_trans hN1.out hk) (by have := HW.out.1; have := HII.out.2; omega) HW.out.2.1.ro HTS.out (HK.out.symm)
                  rw [hEE] at q
                  first | rw [if_pos rfl] at q | rw [if_neg (by decide)] at q
                  try simp only [← HK.out] at q
                  try simp only [Int.toNat_natCast] at q
                  rw [← hBB, ← hT2] at q
                  exact q)
                have HT2 := Lib.hid hT2
                clear hhd htl hT2 hBB hE1 hE2 hEE
                have a1 := (HC.out w5 S5.out.bl).c1
                have a2 := (HC.out w5 S5.out.bl).c2
                go_wp2_with fail
                go_region
                go_wp2_with fail
                clear a1 a2
                refine (HG1.out _ (Below.refl _ w5).drew).mono ?_
                rintro r w6 ⟨rfl, hb6⟩
                have B6 := Lib.hid (show Below w5.heap.size w5 w6 from ((Below.refl _ w5).drew).trans hb6)
                clear hb6 HG1
                go_wp2_with fail
                refine (HSZ.out _ B6.out).mono ?_
                rintro r w7 ⟨rfl, hb7⟩
                have B7 := Lib.hid (up2 B6.out hb7)
                clear hb7
                go_wp2_with fail
                refine (HG2.out _ B7.out).mono ?_
                rintro r w8 ⟨rfl, hb8⟩
                have B8 := Lib.hid (up2 B7.out hb8)
                have S8 := Lib.hid (S5.out.up B8.out)
                clear hb8 HG2
                have aC := HC.out w8 S8.out.bl
                have a0 := aC.c0
                have a1 := aC.c1
                have a2 := aC.c2
                have a3 := aC.c3
                have a4 := aC.c4
                have a5 := aC.c5
                have a6 := aC.c6
                have a7 := aC.c7
                have a8 := aC.c8
                have a9 := aC.c9
                have a10 := aC.c10
                clear aC
                simp only at a0 a1 a2 a3 a4 a5 a6 a7 a8 a9 a10
                go_wp2_with fail
                refine (HDO.out w8 S8.out).mono ?_
                rintro r w9 ⟨rfl, ho9, hp9⟩
                have S9 := Lib.hid (S8.out.next ⟨ho9, hp9⟩)
                clear ho9 hp9 HDO a0 a1 a2 a3 a4 a5 a6 a7 a8 a9 a10
                have a5 : w9.cell? ⟨g, o2 + i * 11 + 5, none⟩ = some (.string etx) := (HC.out w9 S9.out.bl).c5
                go_wp2_with fail
                have HVL := Lib.hid (show Calls Tryz.prog 7 #[.string etx] w9 fun e w' => e = .returned (.bool true) ∧ Below w9.heap.size w9 w' from by
                  have q := rvalid_any etx w9 (by first | (have := HTS.out; omega) | decide)
                  rw [vld_chars] at q
                  have hvv := HV.out
                  rw [hvv] at q; exact q)
                refine HVL.out.mono ?_
                rintro r w10 ⟨rfl, hb10⟩
                have S10 := Lib.hid (S9.out.up hb10)
                clear hb10 HVL S9
                go_wp2_with fail
                obtain ⟨mm, hmm⟩ : ∃ mm : Nat, mm = (chrs etx).length := ⟨_, rfl⟩
                have HMM := Lib.hid (show lenR etx = mm from hmm.symm)
                have HMZ := Lib.hid (show mm ≤ 60 by have := chrs_len etx; have := HTS.out; omega)
                have HMC := Lib.hid hmm
                clear hmm
                have HWT := Lib.hid (show T2.S.pt = pt by rw [HT2.out]; rw [putT_pt, ← HMC.out, ← HP.out]; unfold insN; have := hpe.out; have := hn3000.out; have := HNn.out; have := HXY.out; have := HCS.out; simp only [Bool.false_eq_true, and_false, or_false]; (repeat' split) <;> omega)
                have HLN := Lib.hid (show Calls Tryz.prog 14 #[.string etx] w10 fun e w' => e = .returned (.int .i64 (mm : Int)) ∧ Below w10.heap.size w10 w' from by
                  have q := rlen_any etx w10 (by first | (have := HTS.out; omega) | decide)
                  rw [HMM.out] at q; exact q)
                refine HLN.out.mono ?_
                rintro r w11 ⟨rfl, hb11⟩
                have S11 := Lib.hid (S10.out.up hb11)
                clear hb11 HLN S10
                have q1 : decide (((x : Nat) : Int) ≤ ((pt : Nat) : Int)) = false := decide_eq_false (by have := HCS.out; omega)
                have q2 : (((x : Nat) : Int) ≤ ((pt : Nat) : Int)) = False := eq_false (by have := HCS.out; omega)
                have q3 : (x ≤ pt) = False := eq_false (by have := HCS.out; omega)
                have p1 : decide (((x : Nat) : Int) < ((pt : Nat) : Int)) = false := decide_eq_false (by have := HCS.out; omega)
                have p2 : (((x : Nat) : Int) < ((pt : Nat) : Int)) = False := eq_false (by have := HCS.out; omega)
                have p3 : (x < pt) = False := eq_false (by have := HCS.out; omega)
                obtain ⟨al, hal⟩ : ∃ al, al = encS T2.cs := ⟨_, rfl⟩
                have hcat : hd ++ etx ++ tl = al := by
                  rw [hal, HT2.out, Hhd.out, Htl.out, HNn.out.2, HNn.out.1]
                  exact (by have q := parts_put T (s := etx) (bf := false) (show 1 ≤ x by have := HXY.out; omega) HV.out; rw [← q]; unfold head3 tail3 textV; rw [if_pos (reach_iff.2 (by rw [HW.out.2.1.lo, HW.out.2.1.hi]; have := hpe.out; have := HNn.out; have := HXY.out; have := HP.out; omega)), if_pos (reach_iff.2 (by rw [HW.out.2.1.lo, HW.out.2.1.hi]; have := hpe.out; have := HNn.out; have := HXY.out; have := HP.out; omega))]; rfl)
                obtain ⟨h2, hh2⟩ : ∃ h2, hd ++ etx = h2 := ⟨_, rfl⟩
                rw [hh2] at hcat
                have hz1 : hd.size ≤ 20000 := by rw [Hhd.out]; exact textV_le hn3000.out _ _
                have hz2 : tl.size ≤ 20000 := by rw [Htl.out]; exact textV_le hn3000.out _ _
                have htz : (etx : ByteArray).size ≤ 60 := by first | exact HTS.out | decide
                have hz3 : h2.size ≤ 20060 := by rw [← hh2, ByteArray.size_append]; omega
                have hs1 : hd.size + (etx : ByteArray).size ≤ 9223372036854775807 := by omega
                have hs2 : h2.size + tl.size ≤ 9223372036854775807 := by omega
                have eal2 : (al.toList == al.toList) = true := by simp
                have HAL := Lib.hid (show Calls Tryz.prog 9 #[pAt b] w11 fun r w' => r = .returned (.string al) ∧ Below w11.heap.size w11 w' from by
                  have q := pAll S11.out.pb
                  rw [← hal] at q; exact q)
                clear hal hz1 hz2 hz3 htz est
                go_wp2_with fail
                refine HAL.out.mono ?_
                rintro r w12 ⟨rfl, hb12⟩
                have S12 := Lib.hid (S11.out.up hb12)
                clear hb12 HAL S11
                go_wp2_with fail
                have hpo := bpoint S12.out.pb.r
                rw [HWT.out] at hpo
                refine hpo.mono ?_
                rintro r w13 ⟨rfl, hw13⟩
                have S13 := Lib.hid (hw13 ▸ S12.out)
                clear hpo S12 hw13
                go_wp2_with fail
                go_roundw
                case rel =>
                  refine ⟨i + 1, by have := HII.out; omega, by first | rfl | go_num, T2, _, ⟨S13.out, by have := HW.out.1; have := hn3000.out; have := HBB.out; omega, ?_, ?_⟩⟩
                  · rw [HT2.out]; exact HW.out.2.1.put (by have := HXY.out; omega) (by have := HXY.out; have := HNn.out; omega)
                  · rw [HT2.out]; rw [putT_cs, insC_len]; have := HW.out.2.2; have := chrs_len etx; have := HTS.out; omega
                case measure => have := HII.out; simp [int2]; omega
          case neg =>
            have HV := Lib.hid hv
            clear hv
            have hE1 : delE T 1 (x : Int) = 0 := by unfold delE; rw [if_pos (reach_iff.2 (by rw [HW.out.2.1.lo, HW.out.2.1.hi]; have := hpe.out; have := HNn.out; have := HXY.out; have := HP.out; omega))]
            have hE2 : delE T (x : Int) (n1 : Int) = 0 := by unfold delE; rw [if_pos (reach_iff.2 (by rw [HW.out.2.1.lo, HW.out.2.1.hi]; have := hpe.out; have := HNn.out; have := HXY.out; have := HP.out; omega))]
            have hEE : putEr T (x : Int) etx = 5 := by unfold putEr; rw [if_pos (reach_iff.2 (by rw [HW.out.2.1.lo, HW.out.2.1.hi]; have := hpe.out; have := HNn.out; have := HXY.out; have := HP.out; omega)), fits_short (by have := hn3000.out; omega) HTS.out (by omega), if_neg HV.out]
            obtain ⟨hd, hhd⟩ : ∃ hd, hd = textV T 1 (x : Int) := ⟨_, rfl⟩
            obtain ⟨tl, htl⟩ : ∃ tl, tl = textV T (x : Int) (n1 : Int) := ⟨_, rfl⟩
            have HG1 := Lib.hid (show ∀ W, Below w5.heap.size w5 W → Calls Tryz.prog 11 #[pAt b, .int .i64 1, .int .i64 (x : Int)] W fun r w' => r = .returned (.tuple #[.string hd, .int .i64 0]) ∧ Below W.heap.size W w' from fun W hb => by
              have q := pText (S5.out.pb.up hb) 1 (x : Int)
              rw [hE1, ← hhd] at q; exact q)
            have HG2 := Lib.hid (show ∀ W, Below w5.heap.size w5 W → Calls Tryz.prog 11 #[pAt b, .int .i64 (x : Int), .int .i64 (n1 : Int)] W fun r w' => r = .returned (.tuple #[.string tl, .int .i64 0]) ∧ Below W.heap.size W w' from fun W hb => by
              have q := pText (S5.out.pb.up hb) (x : Int) (n1 : Int)
              rw [hE2, ← htl] at q; exact q)
            have HSZ := Lib.hid (show ∀ W, Below w5.heap.size w5 W → Calls Tryz.prog 12 #[pAt b] W fun r w' => r = .returned (.int .i64 (n : Int)) ∧ Below W.heap.size W w' from fun W hb => by
              have q := bsize (S5.out.pb.up hb).r
              rw [← HNn.out.1] at q; exact q)
            have Hhd := Lib.hid hhd
            have Htl := Lib.hid htl
            obtain ⟨T2, hT2⟩ : ∃ T2 : Tx, T2 = T := ⟨_, rfl⟩
            obtain ⟨BB, hBB⟩ : ∃ BB : Nat, BB = B + 4 := ⟨_, rfl⟩
            have HBB := Lib.hid hBB
            have HDO := Lib.hid (show ∀ W, St N w1 w1.heap.size b W T B → Calls Tryz.prog 13 #[pAt b, actV (⟨ek, (x : Int), eb, eid, enm, etx, eon, eal, evk, evn, esA, esp, esc⟩ : AcE)] W (DoP N W b (fun k => w1.heap.size ≤ k) 5 T2 BB) from fun W hS => by
              have q := do_put3 (e := (⟨ek, (x : Int), eb, eid, enm, etx, eon, eal, evk, evn, esA, esp, esc⟩ : AcE)) (hS.tabs hN1.out (Nat.le_refl _) T1.out) (hS.rules hN1.out (Nat.le_refl _) R1.out) hS.pb (fun k hk => Nat.le_trans hN1.out hk) (by have := HW.out.1; have := HII.out.2; omega) HW.out.2.1.ro HTS.out (HK.out.symm)
              rw [hEE] at q
              first | rw [if_pos rfl] at q | rw [if_neg (by decide)] at q
              try simp only [← HK.out] at q
              try simp only [Int.toNat_natCast] at q
              rw [← hBB, ← hT2] at q
              exact q)
            have HT2 := Lib.hid hT2
            clear hhd htl hT2 hBB hE1 hE2 hEE
            have a1 := (HC.out w5 S5.out.bl).c1
            have a2 := (HC.out w5 S5.out.bl).c2
            go_wp2_with fail
            go_region
            go_wp2_with fail
            clear a1 a2
            refine (HG1.out _ (Below.refl _ w5).drew).mono ?_
            rintro r w6 ⟨rfl, hb6⟩
            have B6 := Lib.hid (show Below w5.heap.size w5 w6 from ((Below.refl _ w5).drew).trans hb6)
            clear hb6 HG1
            go_wp2_with fail
            refine (HSZ.out _ B6.out).mono ?_
            rintro r w7 ⟨rfl, hb7⟩
            have B7 := Lib.hid (up2 B6.out hb7)
            clear hb7
            go_wp2_with fail
            refine (HG2.out _ B7.out).mono ?_
            rintro r w8 ⟨rfl, hb8⟩
            have B8 := Lib.hid (up2 B7.out hb8)
            have S8 := Lib.hid (S5.out.up B8.out)
            clear hb8 HG2
            have aC := HC.out w8 S8.out.bl
            have a0 := aC.c0
            have a1 := aC.c1
            have a2 := aC.c2
            have a3 := aC.c3
            have a4 := aC.c4
            have a5 := aC.c5
            have a6 := aC.c6
            have a7 := aC.c7
            have a8 := aC.c8
            have a9 := aC.c9
            have a10 := aC.c10
            clear aC
            simp only at a0 a1 a2 a3 a4 a5 a6 a7 a8 a9 a10
            go_wp2_with fail
            refine (HDO.out w8 S8.out).mono ?_
            rintro r w9 ⟨rfl, ho9, hp9⟩
            have S9 := Lib.hid (S8.out.next ⟨ho9, hp9⟩)
            clear ho9 hp9 HDO a0 a1 a2 a3 a4 a5 a6 a7 a8 a9 a10
            have a5 : w9.cell? ⟨g, o2 + i * 11 + 5, none⟩ = some (.string etx) := (HC.out w9 S9.out.bl).c5
            go_wp2_with fail
            have HVL := Lib.hid (show Calls Tryz.prog 7 #[.string etx] w9 fun e w' => e = .returned (.bool false) ∧ Below w9.heap.size w9 w' from by
              have q := rvalid_any etx w9 (by first | (have := HTS.out; omega) | decide)
              rw [vld_chars] at q
              have hvv : (charsD etx.data.toList).isSome = false := by simpa using HV.out
              rw [hvv] at q; exact q)
            refine HVL.out.mono ?_
            rintro r w10 ⟨rfl, hb10⟩
            have S10 := Lib.hid (S9.out.up hb10)
            clear hb10 HVL S9
            go_wp2_with fail
            rw [HT2.out] at S10
            have hal := pAll S10.out.pb
            rw [← HST.out] at hal
            refine hal.mono ?_
            rintro r w11 ⟨rfl, hb11⟩
            have S11 := Lib.hid (S10.out.up hb11)
            clear hb11 hal S10
            go_wp2_with fail
            have hpo := bpoint S11.out.pb.r
            rw [← HP.out] at hpo
            refine hpo.mono ?_
            rintro r w12 ⟨rfl, hw12⟩
            have S12 := Lib.hid (hw12 ▸ S11.out)
            clear hpo S11 hw12
            go_wp2_with fail
            go_roundw
            case rel => exact ⟨i + 1, by have := HII.out; omega, by first | rfl | go_num, T, _, ⟨S12.out, by have := HW.out.1; have := hn3000.out; have := HBB.out; omega, HW.out.2.1, by have := HW.out.2.2; omega⟩⟩
            case measure => have := HII.out; simp [int2]; omega
        case neg =>
          have HXY := Lib.hid hq
          clear hq
          have hE1 : delE T 1 ea = 3 := by unfold delE; rw [if_neg (fun q => by have q := reach_iff.1 q; rw [HW.out.2.1.lo, HW.out.2.1.hi] at q; have := HNn.out; have := HXY.out; omega)]
          have hE2 : delE T ea (n1 : Int) = 3 := by unfold delE; rw [if_neg (fun q => by have q := reach_iff.1 q; rw [HW.out.2.1.lo, HW.out.2.1.hi] at q; have := HNn.out; have := HXY.out; omega)]
          have hEE : putEr T ea etx = 3 := by unfold putEr; rw [if_neg (fun q => by have q := reach_iff.1 q; rw [HW.out.2.1.lo, HW.out.2.1.hi] at q; have := HNn.out; have := HXY.out; omega)]
          obtain ⟨hd, hhd⟩ : ∃ hd, hd = textV T 1 ea := ⟨_, rfl⟩
          obtain ⟨tl, htl⟩ : ∃ tl, tl = textV T ea (n1 : Int) := ⟨_, rfl⟩
          have HG1 := Lib.hid (show ∀ W, Below w5.heap.size w5 W → Calls Tryz.prog 11 #[pAt b, .int .i64 1, .int .i64 ea] W fun r w' => r = .returned (.tuple #[.string hd, .int .i64 3]) ∧ Below W.heap.size W w' from fun W hb => by
            have q := pText (S5.out.pb.up hb) 1 ea
            rw [hE1, ← hhd] at q; exact q)
          have HG2 := Lib.hid (show ∀ W, Below w5.heap.size w5 W → Calls Tryz.prog 11 #[pAt b, .int .i64 ea, .int .i64 (n1 : Int)] W fun r w' => r = .returned (.tuple #[.string tl, .int .i64 3]) ∧ Below W.heap.size W w' from fun W hb => by
            have q := pText (S5.out.pb.up hb) ea (n1 : Int)
            rw [hE2, ← htl] at q; exact q)
          have HSZ := Lib.hid (show ∀ W, Below w5.heap.size w5 W → Calls Tryz.prog 12 #[pAt b] W fun r w' => r = .returned (.int .i64 (n : Int)) ∧ Below W.heap.size W w' from fun W hb => by
            have q := bsize (S5.out.pb.up hb).r
            rw [← HNn.out.1] at q; exact q)
          have Hhd := Lib.hid hhd
          have Htl := Lib.hid htl
          obtain ⟨T2, hT2⟩ : ∃ T2 : Tx, T2 = T := ⟨_, rfl⟩
          obtain ⟨BB, hBB⟩ : ∃ BB : Nat, BB = B + 4 := ⟨_, rfl⟩
          have HBB := Lib.hid hBB
          have HDO := Lib.hid (show ∀ W, St N w1 w1.heap.size b W T B → Calls Tryz.prog 13 #[pAt b, actV (⟨ek, ea, eb, eid, enm, etx, eon, eal, evk, evn, esA, esp, esc⟩ : AcE)] W (DoP N W b (fun k => w1.heap.size ≤ k) 3 T2 BB) from fun W hS => by
            have q := do_put3 (e := (⟨ek, ea, eb, eid, enm, etx, eon, eal, evk, evn, esA, esp, esc⟩ : AcE)) (hS.tabs hN1.out (Nat.le_refl _) T1.out) (hS.rules hN1.out (Nat.le_refl _) R1.out) hS.pb (fun k hk => Nat.le_trans hN1.out hk) (by have := HW.out.1; have := HII.out.2; omega) HW.out.2.1.ro HTS.out (HK.out.symm)
            rw [hEE] at q
            first | rw [if_pos rfl] at q | rw [if_neg (by decide)] at q
            try simp only [← HK.out] at q
            try simp only [Int.toNat_natCast] at q
            rw [← hBB, ← hT2] at q
            exact q)
          have HT2 := Lib.hid hT2
          clear hhd htl hT2 hBB hE1 hE2 hEE
          have a1 := (HC.out w5 S5.out.bl).c1
          have a2 := (HC.out w5 S5.out.bl).c2
          go_wp2_with fail
          go_region
          go_wp2_with fail
          clear a1 a2
          refine (HG1.out _ (Below.refl _ w5).drew).mono ?_
          rintro r w6 ⟨rfl, hb6⟩
          have B6 := Lib.hid (show Below w5.heap.size w5 w6 from ((Below.refl _ w5).drew).trans hb6)
          clear hb6 HG1
          go_wp2_with fail
          refine (HSZ.out _ B6.out).mono ?_
          rintro r w7 ⟨rfl, hb7⟩
          have B7 := Lib.hid (up2 B6.out hb7)
          clear hb7
          go_wp2_with fail
          refine (HG2.out _ B7.out).mono ?_
          rintro r w8 ⟨rfl, hb8⟩
          have B8 := Lib.hid (up2 B7.out hb8)
          have S8 := Lib.hid (S5.out.up B8.out)
          clear hb8 HG2
          have aC := HC.out w8 S8.out.bl
          have a0 := aC.c0
          have a1 := aC.c1
          have a2 := aC.c2
          have a3 := aC.c3
          have a4 := aC.c4
          have a5 := aC.c5
          have a6 := aC.c6
          have a7 := aC.c7
          have a8 := aC.c8
          have a9 := aC.c9
          have a10 := aC.c10
          clear aC
          simp only at a0 a1 a2 a3 a4 a5 a6 a7 a8 a9 a10
          go_wp2_with fail
          refine (HDO.out w8 S8.out).mono ?_
          rintro r w9 ⟨rfl, ho9, hp9⟩
          have S9 := Lib.hid (S8.out.next ⟨ho9, hp9⟩)
          clear ho9 hp9 HDO a0 a1 a2 a3 a4 a5 a6 a7 a8 a9 a10
          have a5 : w9.cell? ⟨g, o2 + i * 11 + 5, none⟩ = some (.string etx) := (HC.out w9 S9.out.bl).c5
          go_wp2_with fail
          have S10 := Lib.hid S9.out
          clear S9
          rw [HT2.out] at S10
          have hal := pAll S10.out.pb
          rw [← HST.out] at hal
          refine hal.mono ?_
          rintro r w11 ⟨rfl, hb11⟩
          have S11 := Lib.hid (S10.out.up hb11)
          clear hb11 hal S10
          go_wp2_with fail
          have hpo := bpoint S11.out.pb.r
          rw [← HP.out] at hpo
          refine hpo.mono ?_
          rintro r w12 ⟨rfl, hw12⟩
          have S12 := Lib.hid (hw12 ▸ S11.out)
          clear hpo S11 hw12
          go_wp2_with fail
          go_roundw
          case rel => exact ⟨i + 1, by have := HII.out; omega, by first | rfl | go_num, T, _, ⟨S12.out, by have := HW.out.1; have := hn3000.out; have := HBB.out; omega, HW.out.2.1, by have := HW.out.2.2; omega⟩⟩
          case measure => have := HII.out; simp [int2]; omega
    · as_aux_lemma =>
        by_cases hq : 1 ≤ ea ∧ ea ≤ (n : Int) + 1
        case neg =>
          have HXY := Lib.hid hq
          clear hq
          have hE1 : delE T 1 ea = 3 := by unfold delE; rw [if_neg (fun q => by have q := reach_iff.1 q; rw [HW.out.2.1.lo, HW.out.2.1.hi] at q; have := HNn.out; have := HXY.out; omega)]
          obtain ⟨v2, hE2⟩ : ∃ v2, delE T eb (n1 : Int) = v2 := ⟨_, rfl⟩
          have hEE : delE T ea eb = 3 := by unfold delE; rw [if_neg (fun q => by have q := reach_iff.1 q; rw [HW.out.2.1.lo, HW.out.2.1.hi] at q; have := HNn.out; have := HXY.out; omega)]
          obtain ⟨hd, hhd⟩ : ∃ hd, hd = textV T 1 ea := ⟨_, rfl⟩
          obtain ⟨tl, htl⟩ : ∃ tl, tl = textV T eb (n1 : Int) := ⟨_, rfl⟩
          have HG1 := Lib.hid (show ∀ W, Below w5.heap.size w5 W → Calls Tryz.prog 11 #[pAt b, .int .i64 1, .int .i64 ea] W fun r w' => r = .returned (.tuple #[.string hd, .int .i64 3]) ∧ Below W.heap.size W w' from fun W hb => by
            have q := pText (S5.out.pb.up hb) 1 ea
            rw [hE1, ← hhd] at q; exact q)
          have HG2 := Lib.hid (show ∀ W, Below w5.heap.size w5 W → Calls Tryz.prog 11 #[pAt b, .int .i64 eb, .int .i64 (n1 : Int)] W fun r w' => r = .returned (.tuple #[.string tl, .int .i64 v2]) ∧ Below W.heap.size W w' from fun W hb => by
            have q := pText (S5.out.pb.up hb) eb (n1 : Int)
            rw [hE2, ← htl] at q; exact q)
          have HSZ := Lib.hid (show ∀ W, Below w5.heap.size w5 W → Calls Tryz.prog 12 #[pAt b] W fun r w' => r = .returned (.int .i64 (n : Int)) ∧ Below W.heap.size W w' from fun W hb => by
            have q := bsize (S5.out.pb.up hb).r
            rw [← HNn.out.1] at q; exact q)
          have Hhd := Lib.hid hhd
          have Htl := Lib.hid htl
          obtain ⟨T2, hT2⟩ : ∃ T2 : Tx, T2 = T := ⟨_, rfl⟩
          obtain ⟨BB, hBB⟩ : ∃ BB : Nat, BB = B + T.cs.length + 4 := ⟨_, rfl⟩
          have HBB := Lib.hid hBB
          have HDO := Lib.hid (show ∀ W, St N w1 w1.heap.size b W T B → Calls Tryz.prog 13 #[pAt b, actV (⟨ek, ea, eb, eid, enm, etx, eon, eal, evk, evn, esA, esp, esc⟩ : AcE)] W (DoP N W b (fun k => w1.heap.size ≤ k) 3 T2 BB) from fun W hS => by
            have q := do_del4 (e := (⟨ek, ea, eb, eid, enm, etx, eon, eal, evk, evn, esA, esp, esc⟩ : AcE)) (hS.tabs hN1.out (Nat.le_refl _) T1.out) (hS.rules hN1.out (Nat.le_refl _) R1.out) hS.pb (fun k hk => Nat.le_trans hN1.out hk) (by have := HW.out.1; have := HII.out.2; omega) HW.out.2.1.ro HTS.out (HK.out.symm)
            rw [hEE] at q
            first | rw [if_pos rfl] at q | rw [if_neg (by decide)] at q
            try simp only [← HK.out] at q
            try simp only [Int.toNat_natCast] at q
            rw [← hBB, ← hT2] at q
            exact q)
          have HT2 := Lib.hid hT2
          clear hhd htl hT2 hBB hE1 hE2 hEE
          have a1 := (HC.out w5 S5.out.bl).c1
          have a2 := (HC.out w5 S5.out.bl).c2
          go_wp2_with fail
          go_region
          go_wp2_with fail
          clear a1 a2
          refine (HG1.out _ (Below.refl _ w5).drew).mono ?_
          rintro r w6 ⟨rfl, hb6⟩
          have B6 := Lib.hid (show Below w5.heap.size w5 w6 from ((Below.refl _ w5).drew).trans hb6)
          clear hb6 HG1
          go_wp2_with fail
          refine (HSZ.out _ B6.out).mono ?_
          rintro r w7 ⟨rfl, hb7⟩
          have B7 := Lib.hid (up2 B6.out hb7)
          clear hb7
          go_wp2_with fail
          refine (HG2.out _ B7.out).mono ?_
          rintro r w8 ⟨rfl, hb8⟩
          have B8 := Lib.hid (up2 B7.out hb8)
          have S8 := Lib.hid (S5.out.up B8.out)
          clear hb8 HG2
          have aC := HC.out w8 S8.out.bl
          have a0 := aC.c0
          have a1 := aC.c1
          have a2 := aC.c2
          have a3 := aC.c3
          have a4 := aC.c4
          have a5 := aC.c5
          have a6 := aC.c6
          have a7 := aC.c7
          have a8 := aC.c8
          have a9 := aC.c9
          have a10 := aC.c10
          clear aC
          simp only at a0 a1 a2 a3 a4 a5 a6 a7 a8 a9 a10
          go_wp2_with fail
          refine (HDO.out w8 S8.out).mono ?_
          rintro r w9 ⟨rfl, ho9, hp9⟩
          have S9 := Lib.hid (S8.out.next ⟨ho9, hp9⟩)
          clear ho9 hp9 HDO a0 a1 a2 a3 a4 a5 a6 a7 a8 a9 a10
          have a5 : w9.cell? ⟨g, o2 + i * 11 + 5, none⟩ = some (.string etx) := (HC.out w9 S9.out.bl).c5
          go_wp2_with fail
          have S10 := Lib.hid S9.out
          clear S9
          rw [HT2.out] at S10
          have hal := pAll S10.out.pb
          rw [← HST.out] at hal
          refine hal.mono ?_
          rintro r w11 ⟨rfl, hb11⟩
          have S11 := Lib.hid (S10.out.up hb11)
          clear hb11 hal S10
          go_wp2_with fail
          have hpo := bpoint S11.out.pb.r
          rw [← HP.out] at hpo
          refine hpo.mono ?_
          rintro r w12 ⟨rfl, hw12⟩
          have S12 := Lib.hid (hw12 ▸ S11.out)
          clear hpo S11 hw12
          go_wp2_with fail
          go_roundw
          case rel => exact ⟨i + 1, by have := HII.out; omega, by first | rfl | go_num, T, _, ⟨S12.out, by have := HW.out.1; have := hn3000.out; have := HBB.out; omega, HW.out.2.1, by have := HW.out.2.2; omega⟩⟩
          case measure => have := HII.out; simp [int2]; omega
        case pos =>
          by_cases hq2 : 1 ≤ eb ∧ eb ≤ (n : Int) + 1
          case neg =>
            have HXY := Lib.hid (⟨hq, hq2⟩ : _ ∧ _)
            clear hq hq2
            have hE1 : delE T 1 ea = 0 := by unfold delE; rw [if_pos (reach_iff.2 (by rw [HW.out.2.1.lo, HW.out.2.1.hi]; have := hpe.out; have := HNn.out; have := HXY.out; have := HP.out; omega))]
            have hE2 : delE T eb (n1 : Int) = 3 := by unfold delE; rw [if_neg (fun q => by have q := reach_iff.1 q; rw [HW.out.2.1.lo, HW.out.2.1.hi] at q; have := HNn.out; have := HXY.out; omega)]
            have hEE : delE T ea eb = 3 := by unfold delE; rw [if_neg (fun q => by have q := reach_iff.1 q; rw [HW.out.2.1.lo, HW.out.2.1.hi] at q; have := HNn.out; have := HXY.out; omega)]
            obtain ⟨hd, hhd⟩ : ∃ hd, hd = textV T 1 ea := ⟨_, rfl⟩
            obtain ⟨tl, htl⟩ : ∃ tl, tl = textV T eb (n1 : Int) := ⟨_, rfl⟩
            have HG1 := Lib.hid (show ∀ W, Below w5.heap.size w5 W → Calls Tryz.prog 11 #[pAt b, .int .i64 1, .int .i64 ea] W fun r w' => r = .returned (.tuple #[.string hd, .int .i64 0]) ∧ Below W.heap.size W w' from fun W hb => by
              have q := pText (S5.out.pb.up hb) 1 ea
              rw [hE1, ← hhd] at q; exact q)
            have HG2 := Lib.hid (show ∀ W, Below w5.heap.size w5 W → Calls Tryz.prog 11 #[pAt b, .int .i64 eb, .int .i64 (n1 : Int)] W fun r w' => r = .returned (.tuple #[.string tl, .int .i64 3]) ∧ Below W.heap.size W w' from fun W hb => by
              have q := pText (S5.out.pb.up hb) eb (n1 : Int)
              rw [hE2, ← htl] at q; exact q)
            have HSZ := Lib.hid (show ∀ W, Below w5.heap.size w5 W → Calls Tryz.prog 12 #[pAt b] W fun r w' => r = .returned (.int .i64 (n : Int)) ∧ Below W.heap.size W w' from fun W hb => by
              have q := bsize (S5.out.pb.up hb).r
              rw [← HNn.out.1] at q; exact q)
            have Hhd := Lib.hid hhd
            have Htl := Lib.hid htl
            obtain ⟨T2, hT2⟩ : ∃ T2 : Tx, T2 = T := ⟨_, rfl⟩
            obtain ⟨BB, hBB⟩ : ∃ BB : Nat, BB = B + T.cs.length + 4 := ⟨_, rfl⟩
            have HBB := Lib.hid hBB
            have HDO := Lib.hid (show ∀ W, St N w1 w1.heap.size b W T B → Calls Tryz.prog 13 #[pAt b, actV (⟨ek, ea, eb, eid, enm, etx, eon, eal, evk, evn, esA, esp, esc⟩ : AcE)] W (DoP N W b (fun k => w1.heap.size ≤ k) 3 T2 BB) from fun W hS => by
              have q := do_del4 (e := (⟨ek, ea, eb, eid, enm, etx, eon, eal, evk, evn, esA, esp, esc⟩ : AcE)) (hS.tabs hN1.out (Nat.le_refl _) T1.out) (hS.rules hN1.out (Nat.le_refl _) R1.out) hS.pb (fun k hk => Nat.le_trans hN1.out hk) (by have := HW.out.1; have := HII.out.2; omega) HW.out.2.1.ro HTS.out (HK.out.symm)
              rw [hEE] at q
              first | rw [if_pos rfl] at q | rw [if_neg (by decide)] at q
              try simp only [← HK.out] at q
              try simp only [Int.toNat_natCast] at q
              rw [← hBB, ← hT2] at q
              exact q)
            have HT2 := Lib.hid hT2
            clear hhd htl hT2 hBB hE1 hE2 hEE
            have a1 := (HC.out w5 S5.out.bl).c1
            have a2 := (HC.out w5 S5.out.bl).c2
            go_wp2_with fail
            go_region
            go_wp2_with fail
            clear a1 a2
            refine (HG1.out _ (Below.refl _ w5).drew).mono ?_
            rintro r w6 ⟨rfl, hb6⟩
            have B6 := Lib.hid (show Below w5.heap.size w5 w6 from ((Below.refl _ w5).drew).trans hb6)
            clear hb6 HG1
            go_wp2_with fail
            refine (HSZ.out _ B6.out).mono ?_
            rintro r w7 ⟨rfl, hb7⟩
            have B7 := Lib.hid (up2 B6.out hb7)
            clear hb7
            go_wp2_with fail
            refine (HG2.out _ B7.out).mono ?_
            rintro r w8 ⟨rfl, hb8⟩
            have B8 := Lib.hid (up2 B7.out hb8)
            have S8 := Lib.hid (S5.out.up B8.out)
            clear hb8 HG2
            have aC := HC.out w8 S8.out.bl
            have a0 := aC.c0
            have a1 := aC.c1
            have a2 := aC.c2
            have a3 := aC.c3
            have a4 := aC.c4
            have a5 := aC.c5
            have a6 := aC.c6
            have a7 := aC.c7
            have a8 := aC.c8
            have a9 := aC.c9
            have a10 := aC.c10
            clear aC
            simp only at a0 a1 a2 a3 a4 a5 a6 a7 a8 a9 a10
            go_wp2_with fail
            refine (HDO.out w8 S8.out).mono ?_
            rintro r w9 ⟨rfl, ho9, hp9⟩
            have S9 := Lib.hid (S8.out.next ⟨ho9, hp9⟩)
            clear ho9 hp9 HDO a0 a1 a2 a3 a4 a5 a6 a7 a8 a9 a10
            have a5 : w9.cell? ⟨g, o2 + i * 11 + 5, none⟩ = some (.string etx) := (HC.out w9 S9.out.bl).c5
            go_wp2_with fail
            have S10 := Lib.hid S9.out
            clear S9
            rw [HT2.out] at S10
            have hal := pAll S10.out.pb
            rw [← HST.out] at hal
            refine hal.mono ?_
            rintro r w11 ⟨rfl, hb11⟩
            have S11 := Lib.hid (S10.out.up hb11)
            clear hb11 hal S10
            go_wp2_with fail
            have hpo := bpoint S11.out.pb.r
            rw [← HP.out] at hpo
            refine hpo.mono ?_
            rintro r w12 ⟨rfl, hw12⟩
            have S12 := Lib.hid (hw12 ▸ S11.out)
            clear hpo S11 hw12
            go_wp2_with fail
            go_roundw
            case rel => exact ⟨i + 1, by have := HII.out; omega, by first | rfl | go_num, T, _, ⟨S12.out, by have := HW.out.1; have := hn3000.out; have := HBB.out; omega, HW.out.2.1, by have := HW.out.2.2; omega⟩⟩
            case measure => have := HII.out; simp [int2]; omega
          case pos =>
            by_cases hq3 : ea ≤ eb
            case neg =>
              have HXY := Lib.hid (⟨hq, hq2, hq3⟩ : _ ∧ _ ∧ _)
              clear hq hq2 hq3
              have hE1 : delE T 1 ea = 0 := by unfold delE; rw [if_pos (reach_iff.2 (by rw [HW.out.2.1.lo, HW.out.2.1.hi]; have := hpe.out; have := HNn.out; have := HXY.out; have := HP.out; omega))]
              have hE2 : delE T eb (n1 : Int) = 0 := by unfold delE; rw [if_pos (reach_iff.2 (by rw [HW.out.2.1.lo, HW.out.2.1.hi]; have := hpe.out; have := HNn.out; have := HXY.out; have := HP.out; omega))]
              have hEE : delE T ea eb = 3 := by unfold delE; rw [if_neg (fun q => by have q := reach_iff.1 q; rw [HW.out.2.1.lo, HW.out.2.1.hi] at q; have := HNn.out; have := HXY.out; omega)]
              have le1 : decide (ea ≤ eb) = false := decide_eq_false (by have := HXY.out; omega)
              have le2 : (ea ≤ eb) = False := eq_false (by have := HXY.out; omega)
              obtain ⟨hd, hhd⟩ : ∃ hd, hd = textV T 1 ea := ⟨_, rfl⟩
              obtain ⟨tl, htl⟩ : ∃ tl, tl = textV T eb (n1 : Int) := ⟨_, rfl⟩
              have HG1 := Lib.hid (show ∀ W, Below w5.heap.size w5 W → Calls Tryz.prog 11 #[pAt b, .int .i64 1, .int .i64 ea] W fun r w' => r = .returned (.tuple #[.string hd, .int .i64 0]) ∧ Below W.heap.size W w' from fun W hb => by
                have q := pText (S5.out.pb.up hb) 1 ea
                rw [hE1, ← hhd] at q; exact q)
              have HG2 := Lib.hid (show ∀ W, Below w5.heap.size w5 W → Calls Tryz.prog 11 #[pAt b, .int .i64 eb, .int .i64 (n1 : Int)] W fun r w' => r = .returned (.tuple #[.string tl, .int .i64 0]) ∧ Below W.heap.size W w' from fun W hb => by
                have q := pText (S5.out.pb.up hb) eb (n1 : Int)
                rw [hE2, ← htl] at q; exact q)
              have HSZ := Lib.hid (show ∀ W, Below w5.heap.size w5 W → Calls Tryz.prog 12 #[pAt b] W fun r w' => r = .returned (.int .i64 (n : Int)) ∧ Below W.heap.size W w' from fun W hb => by
                have q := bsize (S5.out.pb.up hb).r
                rw [← HNn.out.1] at q; exact q)
              have Hhd := Lib.hid hhd
              have Htl := Lib.hid htl
              obtain ⟨T2, hT2⟩ : ∃ T2 : Tx, T2 = T := ⟨_, rfl⟩
              obtain ⟨BB, hBB⟩ : ∃ BB : Nat, BB = B + T.cs.length + 4 := ⟨_, rfl⟩
              have HBB := Lib.hid hBB
              have HDO := Lib.hid (show ∀ W, St N w1 w1.heap.size b W T B → Calls Tryz.prog 13 #[pAt b, actV (⟨ek, ea, eb, eid, enm, etx, eon, eal, evk, evn, esA, esp, esc⟩ : AcE)] W (DoP N W b (fun k => w1.heap.size ≤ k) 3 T2 BB) from fun W hS => by
                have q := do_del4 (e := (⟨ek, ea, eb, eid, enm, etx, eon, eal, evk, evn, esA, esp, esc⟩ : AcE)) (hS.tabs hN1.out (Nat.le_refl _) T1.out) (hS.rules hN1.out (Nat.le_refl _) R1.out) hS.pb (fun k hk => Nat.le_trans hN1.out hk) (by have := HW.out.1; have := HII.out.2; omega) HW.out.2.1.ro HTS.out (HK.out.symm)
                rw [hEE] at q
                first | rw [if_pos rfl] at q | rw [if_neg (by decide)] at q
                try simp only [← HK.out] at q
                try simp only [Int.toNat_natCast] at q
                rw [← hBB, ← hT2] at q
                exact q)
              have HT2 := Lib.hid hT2
              clear hhd htl hT2 hBB hE1 hE2 hEE
              have a1 := (HC.out w5 S5.out.bl).c1
              have a2 := (HC.out w5 S5.out.bl).c2
              go_wp2_with fail
              go_region
              go_wp2_with fail
              clear a1 a2
              refine (HG1.out _ (Below.refl _ w5).drew).mono ?_
              rintro r w6 ⟨rfl, hb6⟩
              have B6 := Lib.hid (show Below w5.heap.size w5 w6 from ((Below.refl _ w5).drew).trans hb6)
              clear hb6 HG1
              go_wp2_with fail
              refine (HSZ.out _ B6.out).mono ?_
              rintro r w7 ⟨rfl, hb7⟩
              have B7 := Lib.hid (up2 B6.out hb7)
              clear hb7
              go_wp2_with fail
              refine (HG2.out _ B7.out).mono ?_
              rintro r w8 ⟨rfl, hb8⟩
              have B8 := Lib.hid (up2 B7.out hb8)
              have S8 := Lib.hid (S5.out.up B8.out)
              clear hb8 HG2
              have aC := HC.out w8 S8.out.bl
              have a0 := aC.c0
              have a1 := aC.c1
              have a2 := aC.c2
              have a3 := aC.c3
              have a4 := aC.c4
              have a5 := aC.c5
              have a6 := aC.c6
              have a7 := aC.c7
              have a8 := aC.c8
              have a9 := aC.c9
              have a10 := aC.c10
              clear aC
              simp only at a0 a1 a2 a3 a4 a5 a6 a7 a8 a9 a10
              go_wp2_with fail
              refine (HDO.out w8 S8.out).mono ?_
              rintro r w9 ⟨rfl, ho9, hp9⟩
              have S9 := Lib.hid (S8.out.next ⟨ho9, hp9⟩)
              clear ho9 hp9 HDO a0 a1 a2 a3 a4 a5 a6 a7 a8 a9 a10
              have a5 : w9.cell? ⟨g, o2 + i * 11 + 5, none⟩ = some (.string etx) := (HC.out w9 S9.out.bl).c5
              go_wp2_with fail
              have S10 := Lib.hid S9.out
              clear S9
              rw [HT2.out] at S10
              have hal := pAll S10.out.pb
              rw [← HST.out] at hal
              refine hal.mono ?_
              rintro r w11 ⟨rfl, hb11⟩
              have S11 := Lib.hid (S10.out.up hb11)
              clear hb11 hal S10
              go_wp2_with fail
              have hpo := bpoint S11.out.pb.r
              rw [← HP.out] at hpo
              refine hpo.mono ?_
              rintro r w12 ⟨rfl, hw12⟩
              have S12 := Lib.hid (hw12 ▸ S11.out)
              clear hpo S11 hw12
              go_wp2_with fail
              go_roundw
              case rel => exact ⟨i + 1, by have := HII.out; omega, by first | rfl | go_num, T, _, ⟨S12.out, by have := HW.out.1; have := hn3000.out; have := HBB.out; omega, HW.out.2.1, by have := HW.out.2.2; omega⟩⟩
              case measure => have := HII.out; simp [int2]; omega
            case pos =>
              obtain ⟨x, rfl⟩ : ∃ x : Nat, ea = x := ⟨ea.toNat, by omega⟩
              obtain ⟨y, rfl⟩ : ∃ y : Nat, eb = y := ⟨eb.toNat, by omega⟩
              have HXY := Lib.hid (show 1 ≤ x ∧ x ≤ y ∧ y ≤ n + 1 by omega)
              clear hq hq2 hq3
              as_aux_lemma =>
                by_cases hc : y ≤ pt
                case pos =>
                  have HCS0 := Lib.hid hc
                  clear hc
                  obtain ⟨dd, hdd⟩ : ∃ dd : Nat, dd = y - x := ⟨_, rfl⟩
                  obtain ⟨ww, hww⟩ : ∃ ww : Nat, ww = pt - dd := ⟨_, rfl⟩
                  have HDD := Lib.hid (⟨hdd, hww⟩ : _ ∧ _)
                  clear hdd hww
                  by_cases hc3 : x < ww
                  case pos =>
                    have HCS := Lib.hid (⟨HCS0.out, hc3⟩ : _ ∧ _)
                    clear hc3
                    have hE1 : delE T 1 (x : Int) = 0 := by unfold delE; rw [if_pos (reach_iff.2 (by rw [HW.out.2.1.lo, HW.out.2.1.hi]; have := hpe.out; have := HNn.out; have := HXY.out; have := HP.out; omega))]
                    have hE2 : delE T (y : Int) (n1 : Int) = 0 := by unfold delE; rw [if_pos (reach_iff.2 (by rw [HW.out.2.1.lo, HW.out.2.1.hi]; have := hpe.out; have := HNn.out; have := HXY.out; have := HP.out; omega))]
                    have hEE : delE T (x : Int) (y : Int) = 0 := by unfold delE; rw [if_pos (reach_iff.2 (by rw [HW.out.2.1.lo, HW.out.2.1.hi]; have := hpe.out; have := HNn.out; have := HXY.out; have := HP.out; omega))]
                    have le1 : decide ((x : Int) ≤ (y : Int)) = true := decide_eq_true (by have := HXY.out; omega)
                    have le2 : ((x : Int) ≤ (y : Int)) = True := eq_true (by have := HXY.out; omega)
                    have le3 : (x ≤ y) = True := eq_true (by have := HXY.out; omega)
                    obtain ⟨hd, hhd⟩ : ∃ hd, hd = textV T 1 (x : Int) := ⟨_, rfl⟩
                    obtain ⟨tl, htl⟩ : ∃ tl, tl = textV T (y : Int) (n1 : Int) := ⟨_, rfl⟩
                    have HG1 := Lib.hid (show ∀ W, Below w5.heap.size w5 W → Calls Tryz.prog 11 #[pAt b, .int .i64 1, .int .i64 (x : Int)] W fun r w' => r = .returned (.tuple #[.string hd, .int .i64 0]) ∧ Below W.heap.size W w' from fun W hb => by
                      have q := pText (S5.out.pb.up hb) 1 (x : Int)
                      rw [hE1, ← hhd] at q; exact q)
                    have HG2 := Lib.hid (show ∀ W, Below w5.heap.size w5 W → Calls Tryz.prog 11 #[pAt b, .int .i64 (y : Int), .int .i64 (n1 : Int)] W fun r w' => r = .returned (.tuple #[.string tl, .int .i64 0]) ∧ Below W.heap.size W w' from fun W hb => by
                      have q := pText (S5.out.pb.up hb) (y : Int) (n1 : Int)
                      rw [hE2, ← htl] at q; exact q)
                    have HSZ := Lib.hid (show ∀ W, Below w5.heap.size w5 W → Calls Tryz.prog 12 #[pAt b] W fun r w' => r = .returned (.int .i64 (n : Int)) ∧ Below W.heap.size W w' from fun W hb => by
                      have q := bsize (S5.out.pb.up hb).r
                      rw [← HNn.out.1] at q; exact q)
                    have Hhd := Lib.hid hhd
                    have Htl := Lib.hid htl
                    obtain ⟨T2, hT2⟩ : ∃ T2 : Tx, T2 = takeT T x y := ⟨_, rfl⟩
                    obtain ⟨BB, hBB⟩ : ∃ BB : Nat, BB = B + T.cs.length + 4 := ⟨_, rfl⟩
                    have HBB := Lib.hid hBB
                    have HDO := Lib.hid (show ∀ W, St N w1 w1.heap.size b W T B → Calls Tryz.prog 13 #[pAt b, actV (⟨ek, (x : Int), (y : Int), eid, enm, etx, eon, eal, evk, evn, esA, esp, esc⟩ : AcE)] W (DoP N W b (fun k => w1.heap.size ≤ k) 0 T2 BB) from fun W hS => by
                      have q := do_del4 (e := (⟨ek, (x : Int), (y : Int), eid, enm, etx, eon, eal, evk, evn, esA, esp, esc⟩ : AcE)) (hS.tabs hN1.out (Nat.le_refl _) T1.out) (hS.rules hN1.out (Nat.le_refl _) R1.out) hS.pb (fun k hk => Nat.le_trans hN1.out hk) (by have := HW.out.1; have := HII.out.2; omega) HW.out.2.1.ro HTS.out (HK.out.symm)
                      rw [hEE] at q
                      first | rw [if_pos rfl] at q | rw [if_neg (by decide)] at q
                      try simp only [← HK.out] at q
                      try simp only [Int.toNat_natCast] at q
                      rw [← hBB, ← hT2] at q
                      exact q)
                    have HT2 := Lib.hid hT2
                    clear hhd htl hT2 hBB hE1 hE2 hEE
                    have a1 := (HC.out w5 S5.out.bl).c1
                    have a2 := (HC.out w5 S5.out.bl).c2
                    go_wp2_with fail
                    go_region
                    go_wp2_with fail
                    clear a1 a2
                    refine (HG1.out _ (Below.refl _ w5).drew).mono ?_
                    rintro r w6 ⟨rfl, hb6⟩
                    have B6 := Lib.hid (show Below w5.heap.size w5 w6 from ((Below.refl _ w5).drew).trans hb6)
                    clear hb6 HG1
                    go_wp2_with fail
                    refine (HSZ.out _ B6.out).mono ?_
                    rintro r w7 ⟨rfl, hb7⟩
                    have B7 := Lib.hid (up2 B6.out hb7)
                    clear hb7
                    go_wp2_with fail
                    refine (HG2.out _ B7.out).mono ?_
                    rintro r w8 ⟨rfl, hb8⟩
                    have B8 := Lib.hid (up2 B7.out hb8)
                    have S8 := Lib.hid (S5.out.up B8.out)
                    clear hb8 HG2
                    have aC := HC.out w8 S8.out.bl
                    have a0 := aC.c0
                    have a1 := aC.c1
                    have a2 := aC.c2
                    have a3 := aC.c3
                    have a4 := aC.c4
                    have a5 := aC.c5
                    have a6 := aC.c6
                    have a7 := aC.c7
                    have a8 := aC.c8
                    have a9 := aC.c9
                    have a10 := aC.c10
                    clear aC
                    simp only at a0 a1 a2 a3 a4 a5 a6 a7 a8 a9 a10
                    go_wp2_with fail
                    refine (HDO.out w8 S8.out).mono ?_
                    rintro r w9 ⟨rfl, ho9, hp9⟩
                    have S9 := Lib.hid (S8.out.next ⟨ho9, hp9⟩)
                    clear ho9 hp9 HDO a0 a1 a2 a3 a4 a5 a6 a7 a8 a9 a10
                    have a5 : w9.cell? ⟨g, o2 + i * 11 + 5, none⟩ = some (.string etx) := (HC.out w9 S9.out.bl).c5
                    go_wp2_with fail
                    have HVL := Lib.hid (show Calls Tryz.prog 7 #[.string (⟨#[]⟩ : ByteArray)] w9 fun e w' => e = .returned (.bool true) ∧ Below w9.heap.size w9 w' from by
                      have q := rvalid_any (⟨#[]⟩ : ByteArray) w9 (by first | (have := HTS.out; omega) | decide)
                      rw [vld_chars] at q
                      have hvv : (charsD (ByteArray.mk #[]).data.toList).isSome = true := rfl
                      rw [hvv] at q; exact q)
                    refine HVL.out.mono ?_
                    rintro r w10 ⟨rfl, hb10⟩
                    have S10 := Lib.hid (S9.out.up hb10)
                    clear hb10 HVL S9
                    go_wp2_with fail
                    have HMM := Lib.hid (show lenR ⟨#[]⟩ = 0 by decide)
                    have HWT := Lib.hid (show T2.S.pt = ww by rw [HT2.out]; rw [takeT_pt, ← HP.out]; unfold delN; have := hpe.out; have := hn3000.out; have := HNn.out; have := HXY.out; have := HCS.out; have := HDD.out; (repeat' split) <;> omega)
                    have HLN := Lib.hid (show Calls Tryz.prog 14 #[.string (⟨#[]⟩ : ByteArray)] w10 fun e w' => e = .returned (.int .i64 0) ∧ Below w10.heap.size w10 w' from by
                      have q := rlen_any (⟨#[]⟩ : ByteArray) w10 (by first | (have := HTS.out; omega) | decide)
                      rw [HMM.out] at q; exact q)
                    refine HLN.out.mono ?_
                    rintro r w11 ⟨rfl, hb11⟩
                    have S11 := Lib.hid (S10.out.up hb11)
                    clear hb11 HLN S10
                    have sdd : IntKind.i64.wrap ((y : Int) - (x : Int)) = (dd : Int) := by rw [IntWalk.i64_in _ (by have := hpe.out; have := hn3000.out; have := HNn.out; have := HXY.out; omega)]; have := HDD.out; have := HXY.out; omega
                    have sww : IntKind.i64.wrap ((pt : Int) - (dd : Int)) = (ww : Int) := by rw [IntWalk.i64_in _ (by have := hpe.out; have := hn3000.out; have := HNn.out; have := HXY.out; have := HDD.out; omega)]; have := HDD.out; have := HCS.out; have := HXY.out; omega
                    have sw2 : IntKind.i64.wrap (ww : Int) = (ww : Int) := IntWalk.i64_in _ (by have := hpe.out; have := hn3000.out; have := HNn.out; have := HXY.out; have := HDD.out; omega)
                    have q1 : decide (((y : Nat) : Int) ≤ ((pt : Nat) : Int)) = true := decide_eq_true (by have := HCS.out; omega)
                    have q2 : (((y : Nat) : Int) ≤ ((pt : Nat) : Int)) = True := eq_true (by have := HCS.out; omega)
                    have q3 : (y ≤ pt) = True := eq_true (by have := HCS.out; omega)
                    have p1 : decide (((x : Nat) : Int) < ((ww : Nat) : Int)) = true := decide_eq_true (by have := HCS.out; omega)
                    have p2 : (((x : Nat) : Int) < ((ww : Nat) : Int)) = True := eq_true (by have := HCS.out; omega)
                    have p3 : (x < ww) = True := eq_true (by have := HCS.out; omega)
                    obtain ⟨al, hal⟩ : ∃ al, al = encS T2.cs := ⟨_, rfl⟩
                    have hcat : hd ++ (⟨#[]⟩ : ByteArray) ++ tl = al := by
                      rw [hal, HT2.out, Hhd.out, Htl.out, HNn.out.2, HNn.out.1]
                      exact (by have q := parts_take T (show 1 ≤ x by have := HXY.out; omega) (show x ≤ y by have := HXY.out; omega); rw [← q]; unfold head3 tail3 textV; rw [if_pos (reach_iff.2 (by rw [HW.out.2.1.lo, HW.out.2.1.hi]; have := hpe.out; have := HNn.out; have := HXY.out; have := HP.out; omega)), if_pos (reach_iff.2 (by rw [HW.out.2.1.lo, HW.out.2.1.hi]; have := hpe.out; have := HNn.out; have := HXY.out; have := HP.out; omega))]; rfl)
                    obtain ⟨h2, hh2⟩ : ∃ h2, hd ++ (⟨#[]⟩ : ByteArray) = h2 := ⟨_, rfl⟩
                    rw [hh2] at hcat
                    have hz1 : hd.size ≤ 20000 := by rw [Hhd.out]; exact textV_le hn3000.out _ _
                    have hz2 : tl.size ≤ 20000 := by rw [Htl.out]; exact textV_le hn3000.out _ _
                    have htz : ((⟨#[]⟩ : ByteArray) : ByteArray).size ≤ 60 := by first | exact HTS.out | decide
                    have hz3 : h2.size ≤ 20060 := by rw [← hh2, ByteArray.size_append]; omega
                    have hs1 : hd.size + ((⟨#[]⟩ : ByteArray) : ByteArray).size ≤ 9223372036854775807 := by omega
                    have hs2 : h2.size + tl.size ≤ 9223372036854775807 := by omega
                    have eal2 : (al.toList == al.toList) = true := by simp
                    have HAL := Lib.hid (show Calls Tryz.prog 9 #[pAt b] w11 fun r w' => r = .returned (.string al) ∧ Below w11.heap.size w11 w' from by
                      have q := pAll S11.out.pb
                      rw [← hal] at q; exact q)
                    clear hal hz1 hz2 hz3 htz est
                    go_wp2_with fail
                    refine HAL.out.mono ?_
                    rintro r w12 ⟨rfl, hb12⟩
                    have S12 := Lib.hid (S11.out.up hb12)
                    clear hb12 HAL S11
                    go_wp2_with fail
                    have hpo := bpoint S12.out.pb.r
                    rw [HWT.out] at hpo
                    refine hpo.mono ?_
                    rintro r w13 ⟨rfl, hw13⟩
                    have S13 := Lib.hid (hw13 ▸ S12.out)
                    clear hpo S12 hw13
                    go_wp2_with fail
                    go_roundw
                    case rel =>
                      refine ⟨i + 1, by have := HII.out; omega, by first | rfl | go_num, T2, _, ⟨S13.out, by have := HW.out.1; have := hn3000.out; have := HBB.out; omega, ?_, ?_⟩⟩
                      · rw [HT2.out]; exact HW.out.2.1.take (by have := HXY.out; omega) (by have := HXY.out; omega) (by have := HXY.out; have := HNn.out; omega)
                      · rw [HT2.out]; rw [takeT_cs, delC_len (by have := HXY.out; omega) (by have := HXY.out; omega) (by have := HXY.out; have := HNn.out; omega)]; have := HW.out.2.2; omega
                    case measure => have := HII.out; simp [int2]; omega
                  case neg =>
                    have HCS := Lib.hid (⟨HCS0.out, hc3⟩ : _ ∧ _)
                    clear hc3
                    have hE1 : delE T 1 (x : Int) = 0 := by unfold delE; rw [if_pos (reach_iff.2 (by rw [HW.out.2.1.lo, HW.out.2.1.hi]; have := hpe.out; have := HNn.out; have := HXY.out; have := HP.out; omega))]
                    have hE2 : delE T (y : Int) (n1 : Int) = 0 := by unfold delE; rw [if_pos (reach_iff.2 (by rw [HW.out.2.1.lo, HW.out.2.1.hi]; have := hpe.out; have := HNn.out; have := HXY.out; have := HP.out; omega))]
                    have hEE : delE T (x : Int) (y : Int) = 0 := by unfold delE; rw [if_pos (reach_iff.2 (by rw [HW.out.2.1.lo, HW.out.2.1.hi]; have := hpe.out; have := HNn.out; have := HXY.out; have := HP.out; omega))]
                    have le1 : decide ((x : Int) ≤ (y : Int)) = true := decide_eq_true (by have := HXY.out; omega)
                    have le2 : ((x : Int) ≤ (y : Int)) = True := eq_true (by have := HXY.out; omega)
                    have le3 : (x ≤ y) = True := eq_true (by have := HXY.out; omega)
                    obtain ⟨hd, hhd⟩ : ∃ hd, hd = textV T 1 (x : Int) := ⟨_, rfl⟩
                    obtain ⟨tl, htl⟩ : ∃ tl, tl = textV T (y : Int) (n1 : Int) := ⟨_, rfl⟩
                    have HG1 := Lib.hid (show ∀ W, Below w5.heap.size w5 W → Calls Tryz.prog 11 #[pAt b, .int .i64 1, .int .i64 (x : Int)] W fun r w' => r = .returned (.tuple #[.string hd, .int .i64 0]) ∧ Below W.heap.size W w' from fun W hb => by
                      have q := pText (S5.out.pb.up hb) 1 (x : Int)
                      rw [hE1, ← hhd] at q; exact q)
                    have HG2 := Lib.hid (show ∀ W, Below w5.heap.size w5 W → Calls Tryz.prog 11 #[pAt b, .int .i64 (y : Int), .int .i64 (n1 : Int)] W fun r w' => r = .returned (.tuple #[.string tl, .int .i64 0]) ∧ Below W.heap.size W w' from fun W hb => by
                      have q := pText (S5.out.pb.up hb) (y : Int) (n1 : Int)
                      rw [hE2, ← htl] at q; exact q)
                    have HSZ := Lib.hid (show ∀ W, Below w5.heap.size w5 W → Calls Tryz.prog 12 #[pAt b] W fun r w' => r = .returned (.int .i64 (n : Int)) ∧ Below W.heap.size W w' from fun W hb => by
                      have q := bsize (S5.out.pb.up hb).r
                      rw [← HNn.out.1] at q; exact q)
                    have Hhd := Lib.hid hhd
                    have Htl := Lib.hid htl
                    obtain ⟨T2, hT2⟩ : ∃ T2 : Tx, T2 = takeT T x y := ⟨_, rfl⟩
                    obtain ⟨BB, hBB⟩ : ∃ BB : Nat, BB = B + T.cs.length + 4 := ⟨_, rfl⟩
                    have HBB := Lib.hid hBB
                    have HDO := Lib.hid (show ∀ W, St N w1 w1.heap.size b W T B → Calls Tryz.prog 13 #[pAt b, actV (⟨ek, (x : Int), (y : Int), eid, enm, etx, eon, eal, evk, evn, esA, esp, esc⟩ : AcE)] W (DoP N W b (fun k => w1.heap.size ≤ k) 0 T2 BB) from fun W hS => by
                      have q := do_del4 (e := (⟨ek, (x : Int), (y : Int), eid, enm, etx, eon, eal, evk, evn, esA, esp, esc⟩ : AcE)) (hS.tabs hN1.out (Nat.le_refl _) T1.out) (hS.rules hN1.out (Nat.le_refl _) R1.out) hS.pb (fun k hk => Nat.le_trans hN1.out hk) (by have := HW.out.1; have := HII.out.2; omega) HW.out.2.1.ro HTS.out (HK.out.symm)
                      rw [hEE] at q
                      first | rw [if_pos rfl] at q | rw [if_neg (by decide)] at q
                      try simp only [← HK.out] at q
                      try simp only [Int.toNat_natCast] at q
                      rw [← hBB, ← hT2] at q
                      exact q)
                    have HT2 := Lib.hid hT2
                    clear hhd htl hT2 hBB hE1 hE2 hEE
                    have a1 := (HC.out w5 S5.out.bl).c1
                    have a2 := (HC.out w5 S5.out.bl).c2
                    go_wp2_with fail
                    go_region
                    go_wp2_with fail
                    clear a1 a2
                    refine (HG1.out _ (Below.refl _ w5).drew).mono ?_
                    rintro r w6 ⟨rfl, hb6⟩
                    have B6 := Lib.hid (show Below w5.heap.size w5 w6 from ((Below.refl _ w5).drew).trans hb6)
                    clear hb6 HG1
                    go_wp2_with fail
                    refine (HSZ.out _ B6.out).mono ?_
                    rintro r w7 ⟨rfl, hb7⟩
                    have B7 := Lib.hid (up2 B6.out hb7)
                    clear hb7
                    go_wp2_with fail
                    refine (HG2.out _ B7.out).mono ?_
                    rintro r w8 ⟨rfl, hb8⟩
                    have B8 := Lib.hid (up2 B7.out hb8)
                    have S8 := Lib.hid (S5.out.up B8.out)
                    clear hb8 HG2
                    have aC := HC.out w8 S8.out.bl
                    have a0 := aC.c0
                    have a1 := aC.c1
                    have a2 := aC.c2
                    have a3 := aC.c3
                    have a4 := aC.c4
                    have a5 := aC.c5
                    have a6 := aC.c6
                    have a7 := aC.c7
                    have a8 := aC.c8
                    have a9 := aC.c9
                    have a10 := aC.c10
                    clear aC
                    simp only at a0 a1 a2 a3 a4 a5 a6 a7 a8 a9 a10
                    go_wp2_with fail
                    refine (HDO.out w8 S8.out).mono ?_
                    rintro r w9 ⟨rfl, ho9, hp9⟩
                    have S9 := Lib.hid (S8.out.next ⟨ho9, hp9⟩)
                    clear ho9 hp9 HDO a0 a1 a2 a3 a4 a5 a6 a7 a8 a9 a10
                    have a5 : w9.cell? ⟨g, o2 + i * 11 + 5, none⟩ = some (.string etx) := (HC.out w9 S9.out.bl).c5
                    go_wp2_with fail
                    have HVL := Lib.hid (show Calls Tryz.prog 7 #[.string (⟨#[]⟩ : ByteArray)] w9 fun e w' => e = .returned (.bool true) ∧ Below w9.heap.size w9 w' from by
                      have q := rvalid_any (⟨#[]⟩ : ByteArray) w9 (by first | (have := HTS.out; omega) | decide)
                      rw [vld_chars] at q
                      have hvv : (charsD (ByteArray.mk #[]).data.toList).isSome = true := rfl
                      rw [hvv] at q; exact q)
                    refine HVL.out.mono ?_
                    rintro r w10 ⟨rfl, hb10⟩
                    have S10 := Lib.hid (S9.out.up hb10)
                    clear hb10 HVL S9
                    go_wp2_with fail
                    have HMM := Lib.hid (show lenR ⟨#[]⟩ = 0 by decide)
                    have HWT := Lib.hid (show T2.S.pt = ww by rw [HT2.out]; rw [takeT_pt, ← HP.out]; unfold delN; have := hpe.out; have := hn3000.out; have := HNn.out; have := HXY.out; have := HCS.out; have := HDD.out; (repeat' split) <;> omega)
                    have HLN := Lib.hid (show Calls Tryz.prog 14 #[.string (⟨#[]⟩ : ByteArray)] w10 fun e w' => e = .returned (.int .i64 0) ∧ Below w10.heap.size w10 w' from by
                      have q := rlen_any (⟨#[]⟩ : ByteArray) w10 (by first | (have := HTS.out; omega) | decide)
                      rw [HMM.out] at q; exact q)
                    refine HLN.out.mono ?_
                    rintro r w11 ⟨rfl, hb11⟩
                    have S11 := Lib.hid (S10.out.up hb11)
                    clear hb11 HLN S10
                    have sdd : IntKind.i64.wrap ((y : Int) - (x : Int)) = (dd : Int) := by rw [IntWalk.i64_in _ (by have := hpe.out; have := hn3000.out; have := HNn.out; have := HXY.out; omega)]; have := HDD.out; have := HXY.out; omega
                    have sww : IntKind.i64.wrap ((pt : Int) - (dd : Int)) = (ww : Int) := by rw [IntWalk.i64_in _ (by have := hpe.out; have := hn3000.out; have := HNn.out; have := HXY.out; have := HDD.out; omega)]; have := HDD.out; have := HCS.out; have := HXY.out; omega
                    have sw2 : IntKind.i64.wrap (ww : Int) = (ww : Int) := IntWalk.i64_in _ (by have := hpe.out; have := hn3000.out; have := HNn.out; have := HXY.out; have := HDD.out; omega)
                    have q1 : decide (((y : Nat) : Int) ≤ ((pt : Nat) : Int)) = true := decide_eq_true (by have := HCS.out; omega)
                    have q2 : (((y : Nat) : Int) ≤ ((pt : Nat) : Int)) = True := eq_true (by have := HCS.out; omega)
                    have q3 : (y ≤ pt) = True := eq_true (by have := HCS.out; omega)
                    have p1 : decide (((x : Nat) : Int) < ((ww : Nat) : Int)) = false := decide_eq_false (by have := HCS.out; omega)
                    have p2 : (((x : Nat) : Int) < ((ww : Nat) : Int)) = False := eq_false (by have := HCS.out; omega)
                    have p3 : (x < ww) = False := eq_false (by have := HCS.out; omega)
                    obtain ⟨al, hal⟩ : ∃ al, al = encS T2.cs := ⟨_, rfl⟩
                    have hcat : hd ++ (⟨#[]⟩ : ByteArray) ++ tl = al := by
                      rw [hal, HT2.out, Hhd.out, Htl.out, HNn.out.2, HNn.out.1]
                      exact (by have q := parts_take T (show 1 ≤ x by have := HXY.out; omega) (show x ≤ y by have := HXY.out; omega); rw [← q]; unfold head3 tail3 textV; rw [if_pos (reach_iff.2 (by rw [HW.out.2.1.lo, HW.out.2.1.hi]; have := hpe.out; have := HNn.out; have := HXY.out; have := HP.out; omega)), if_pos (reach_iff.2 (by rw [HW.out.2.1.lo, HW.out.2.1.hi]; have := hpe.out; have := HNn.out; have := HXY.out; have := HP.out; omega))]; rfl)
                    obtain ⟨h2, hh2⟩ : ∃ h2, hd ++ (⟨#[]⟩ : ByteArray) = h2 := ⟨_, rfl⟩
                    rw [hh2] at hcat
                    have hz1 : hd.size ≤ 20000 := by rw [Hhd.out]; exact textV_le hn3000.out _ _
                    have hz2 : tl.size ≤ 20000 := by rw [Htl.out]; exact textV_le hn3000.out _ _
                    have htz : ((⟨#[]⟩ : ByteArray) : ByteArray).size ≤ 60 := by first | exact HTS.out | decide
                    have hz3 : h2.size ≤ 20060 := by rw [← hh2, ByteArray.size_append]; omega
                    have hs1 : hd.size + ((⟨#[]⟩ : ByteArray) : ByteArray).size ≤ 9223372036854775807 := by omega
                    have hs2 : h2.size + tl.size ≤ 9223372036854775807 := by omega
                    have eal2 : (al.toList == al.toList) = true := by simp
                    have HAL := Lib.hid (show Calls Tryz.prog 9 #[pAt b] w11 fun r w' => r = .returned (.string al) ∧ Below w11.heap.size w11 w' from by
                      have q := pAll S11.out.pb
                      rw [← hal] at q; exact q)
                    clear hal hz1 hz2 hz3 htz est
                    go_wp2_with fail
                    refine HAL.out.mono ?_
                    rintro r w12 ⟨rfl, hb12⟩
                    have S12 := Lib.hid (S11.out.up hb12)
                    clear hb12 HAL S11
                    go_wp2_with fail
                    have hpo := bpoint S12.out.pb.r
                    rw [HWT.out] at hpo
                    refine hpo.mono ?_
                    rintro r w13 ⟨rfl, hw13⟩
                    have S13 := Lib.hid (hw13 ▸ S12.out)
                    clear hpo S12 hw13
                    go_wp2_with fail
                    go_roundw
                    case rel =>
                      refine ⟨i + 1, by have := HII.out; omega, by first | rfl | go_num, T2, _, ⟨S13.out, by have := HW.out.1; have := hn3000.out; have := HBB.out; omega, ?_, ?_⟩⟩
                      · rw [HT2.out]; exact HW.out.2.1.take (by have := HXY.out; omega) (by have := HXY.out; omega) (by have := HXY.out; have := HNn.out; omega)
                      · rw [HT2.out]; rw [takeT_cs, delC_len (by have := HXY.out; omega) (by have := HXY.out; omega) (by have := HXY.out; have := HNn.out; omega)]; have := HW.out.2.2; omega
                    case measure => have := HII.out; simp [int2]; omega
                case neg =>
                  by_cases hc2 : x < pt
                  case pos =>
                    have HCS := Lib.hid (⟨hc, hc2⟩ : _ ∧ _)
                    clear hc hc2
                    have hE1 : delE T 1 (x : Int) = 0 := by unfold delE; rw [if_pos (reach_iff.2 (by rw [HW.out.2.1.lo, HW.out.2.1.hi]; have := hpe.out; have := HNn.out; have := HXY.out; have := HP.out; omega))]
                    have hE2 : delE T (y : Int) (n1 : Int) = 0 := by unfold delE; rw [if_pos (reach_iff.2 (by rw [HW.out.2.1.lo, HW.out.2.1.hi]; have := hpe.out; have := HNn.out; have := HXY.out; have := HP.out; omega))]
                    have hEE : delE T (x : Int) (y : Int) = 0 := by unfold delE; rw [if_pos (reach_iff.2 (by rw [HW.out.2.1.lo, HW.out.2.1.hi]; have := hpe.out; have := HNn.out; have := HXY.out; have := HP.out; omega))]
                    have le1 : decide ((x : Int) ≤ (y : Int)) = true := decide_eq_true (by have := HXY.out; omega)
                    have le2 : ((x : Int) ≤ (y : Int)) = True := eq_true (by have := HXY.out; omega)
                    have le3 : (x ≤ y) = True := eq_true (by have := HXY.out; omega)
                    obtain ⟨hd, hhd⟩ : ∃ hd, hd = textV T 1 (x : Int) := ⟨_, rfl⟩
                    obtain ⟨tl, htl⟩ : ∃ tl, tl = textV T (y : Int) (n1 : Int) := ⟨_, rfl⟩
                    have HG1 := Lib.hid (show ∀ W, Below w5.heap.size w5 W → Calls Tryz.prog 11 #[pAt b, .int .i64 1, .int .i64 (x : Int)] W fun r w' => r = .returned (.tuple #[.string hd, .int .i64 0]) ∧ Below W.heap.size W w' from fun W hb => by
                      have q := pText (S5.out.pb.up hb) 1 (x : Int)
                      rw [hE1, ← hhd] at q; exact q)
                    have HG2 := Lib.hid (show ∀ W, Below w5.heap.size w5 W → Calls Tryz.prog 11 #[pAt b, .int .i64 (y : Int), .int .i64 (n1 : Int)] W fun r w' => r = .returned (.tuple #[.string tl, .int .i64 0]) ∧ Below W.heap.size W w' from fun W hb => by
                      have q := pText (S5.out.pb.up hb) (y : Int) (n1 : Int)
                      rw [hE2, ← htl] at q; exact q)
                    have HSZ := Lib.hid (show ∀ W, Below w5.heap.size w5 W → Calls Tryz.prog 12 #[pAt b] W fun r w' => r = .returned (.int .i64 (n : Int)) ∧ Below W.heap.size W w' from fun W hb => by
                      have q := bsize (S5.out.pb.up hb).r
                      rw [← HNn.out.1] at q; exact q)
                    have Hhd := Lib.hid hhd
                    have Htl := Lib.hid htl
                    obtain ⟨T2, hT2⟩ : ∃ T2 : Tx, T2 = takeT T x y := ⟨_, rfl⟩
                    obtain ⟨BB, hBB⟩ : ∃ BB : Nat, BB = B + T.cs.length + 4 := ⟨_, rfl⟩
                    have HBB := Lib.hid hBB
                    have HDO := Lib.hid (show ∀ W, St N w1 w1.heap.size b W T B → Calls Tryz.prog 13 #[pAt b, actV (⟨ek, (x : Int), (y : Int), eid, enm, etx, eon, eal, evk, evn, esA, esp, esc⟩ : AcE)] W (DoP N W b (fun k => w1.heap.size ≤ k) 0 T2 BB) from fun W hS => by
                      have q := do_del4 (e := (⟨ek, (x : Int), (y : Int), eid, enm, etx, eon, eal, evk, evn, esA, esp, esc⟩ : AcE)) (hS.tabs hN1.out (Nat.le_refl _) T1.out) (hS.rules hN1.out (Nat.le_refl _) R1.out) hS.pb (fun k hk => Nat.le_trans hN1.out hk) (by have := HW.out.1; have := HII.out.2; omega) HW.out.2.1.ro HTS.out (HK.out.symm)
                      rw [hEE] at q
                      first | rw [if_pos rfl] at q | rw [if_neg (by decide)] at q
                      try simp only [← HK.out] at q
                      try simp only [Int.toNat_natCast] at q
                      rw [← hBB, ← hT2] at q
                      exact q)
                    have HT2 := Lib.hid hT2
                    clear hhd htl hT2 hBB hE1 hE2 hEE
                    have a1 := (HC.out w5 S5.out.bl).c1
                    have a2 := (HC.out w5 S5.out.bl).c2
                    go_wp2_with fail
                    go_region
                    go_wp2_with fail
                    clear a1 a2
                    refine (HG1.out _ (Below.refl _ w5).drew).mono ?_
                    rintro r w6 ⟨rfl, hb6⟩
                    have B6 := Lib.hid (show Below w5.heap.size w5 w6 from ((Below.refl _ w5).drew).trans hb6)
                    clear hb6 HG1
                    go_wp2_with fail
                    refine (HSZ.out _ B6.out).mono ?_
                    rintro r w7 ⟨rfl, hb7⟩
                    have B7 := Lib.hid (up2 B6.out hb7)
                    clear hb7
                    go_wp2_with fail
                    refine (HG2.out _ B7.out).mono ?_
                    rintro r w8 ⟨rfl, hb8⟩
                    have B8 := Lib.hid (up2 B7.out hb8)
                    have S8 := Lib.hid (S5.out.up B8.out)
                    clear hb8 HG2
                    have aC := HC.out w8 S8.out.bl
                    have a0 := aC.c0
                    have a1 := aC.c1
                    have a2 := aC.c2
                    have a3 := aC.c3
                    have a4 := aC.c4
                    have a5 := aC.c5
                    have a6 := aC.c6
                    have a7 := aC.c7
                    have a8 := aC.c8
                    have a9 := aC.c9
                    have a10 := aC.c10
                    clear aC
                    simp only at a0 a1 a2 a3 a4 a5 a6 a7 a8 a9 a10
                    go_wp2_with fail
                    refine (HDO.out w8 S8.out).mono ?_
                    rintro r w9 ⟨rfl, ho9, hp9⟩
                    have S9 := Lib.hid (S8.out.next ⟨ho9, hp9⟩)
                    clear ho9 hp9 HDO a0 a1 a2 a3 a4 a5 a6 a7 a8 a9 a10
                    have a5 : w9.cell? ⟨g, o2 + i * 11 + 5, none⟩ = some (.string etx) := (HC.out w9 S9.out.bl).c5
                    go_wp2_with fail
                    have HVL := Lib.hid (show Calls Tryz.prog 7 #[.string (⟨#[]⟩ : ByteArray)] w9 fun e w' => e = .returned (.bool true) ∧ Below w9.heap.size w9 w' from by
                      have q := rvalid_any (⟨#[]⟩ : ByteArray) w9 (by first | (have := HTS.out; omega) | decide)
                      rw [vld_chars] at q
                      have hvv : (charsD (ByteArray.mk #[]).data.toList).isSome = true := rfl
                      rw [hvv] at q; exact q)
                    refine HVL.out.mono ?_
                    rintro r w10 ⟨rfl, hb10⟩
                    have S10 := Lib.hid (S9.out.up hb10)
                    clear hb10 HVL S9
                    go_wp2_with fail
                    have HMM := Lib.hid (show lenR ⟨#[]⟩ = 0 by decide)
                    have HWT := Lib.hid (show T2.S.pt = x by rw [HT2.out]; rw [takeT_pt, ← HP.out]; unfold delN; have := hpe.out; have := hn3000.out; have := HNn.out; have := HXY.out; have := HCS.out; (repeat' split) <;> omega)
                    have HLN := Lib.hid (show Calls Tryz.prog 14 #[.string (⟨#[]⟩ : ByteArray)] w10 fun e w' => e = .returned (.int .i64 0) ∧ Below w10.heap.size w10 w' from by
                      have q := rlen_any (⟨#[]⟩ : ByteArray) w10 (by first | (have := HTS.out; omega) | decide)
                      rw [HMM.out] at q; exact q)
                    refine HLN.out.mono ?_
                    rintro r w11 ⟨rfl, hb11⟩
                    have S11 := Lib.hid (S10.out.up hb11)
                    clear hb11 HLN S10
                    have q1 : decide (((y : Nat) : Int) ≤ ((pt : Nat) : Int)) = false := decide_eq_false (by have := HCS.out; omega)
                    have q2 : (((y : Nat) : Int) ≤ ((pt : Nat) : Int)) = False := eq_false (by have := HCS.out; omega)
                    have q3 : (y ≤ pt) = False := eq_false (by have := HCS.out; omega)
                    have p1 : decide (((x : Nat) : Int) < ((pt : Nat) : Int)) = true := decide_eq_true (by have := HCS.out; omega)
                    have p2 : (((x : Nat) : Int) < ((pt : Nat) : Int)) = True := eq_true (by have := HCS.out; omega)
                    have p3 : (x < pt) = True := eq_true (by have := HCS.out; omega)
                    obtain ⟨al, hal⟩ : ∃ al, al = encS T2.cs := ⟨_, rfl⟩
                    have hcat : hd ++ (⟨#[]⟩ : ByteArray) ++ tl = al := by
                      rw [hal, HT2.out, Hhd.out, Htl.out, HNn.out.2, HNn.out.1]
                      exact (by have q := parts_take T (show 1 ≤ x by have := HXY.out; omega) (show x ≤ y by have := HXY.out; omega); rw [← q]; unfold head3 tail3 textV; rw [if_pos (reach_iff.2 (by rw [HW.out.2.1.lo, HW.out.2.1.hi]; have := hpe.out; have := HNn.out; have := HXY.out; have := HP.out; omega)), if_pos (reach_iff.2 (by rw [HW.out.2.1.lo, HW.out.2.1.hi]; have := hpe.out; have := HNn.out; have := HXY.out; have := HP.out; omega))]; rfl)
                    obtain ⟨h2, hh2⟩ : ∃ h2, hd ++ (⟨#[]⟩ : ByteArray) = h2 := ⟨_, rfl⟩
                    rw [hh2] at hcat
                    have hz1 : hd.size ≤ 20000 := by rw [Hhd.out]; exact textV_le hn3000.out _ _
                    have hz2 : tl.size ≤ 20000 := by rw [Htl.out]; exact textV_le hn3000.out _ _
                    have htz : ((⟨#[]⟩ : ByteArray) : ByteArray).size ≤ 60 := by first | exact HTS.out | decide
                    have hz3 : h2.size ≤ 20060 := by rw [← hh2, ByteArray.size_append]; omega
                    have hs1 : hd.size + ((⟨#[]⟩ : ByteArray) : ByteArray).size ≤ 9223372036854775807 := by omega
                    have hs2 : h2.size + tl.size ≤ 9223372036854775807 := by omega
                    have eal2 : (al.toList == al.toList) = true := by simp
                    have HAL := Lib.hid (show Calls Tryz.prog 9 #[pAt b] w11 fun r w' => r = .returned (.string al) ∧ Below w11.heap.size w11 w' from by
                      have q := pAll S11.out.pb
                      rw [← hal] at q; exact q)
                    clear hal hz1 hz2 hz3 htz est
                    go_wp2_with fail
                    refine HAL.out.mono ?_
                    rintro r w12 ⟨rfl, hb12⟩
                    have S12 := Lib.hid (S11.out.up hb12)
                    clear hb12 HAL S11
                    go_wp2_with fail
                    have hpo := bpoint S12.out.pb.r
                    rw [HWT.out] at hpo
                    refine hpo.mono ?_
                    rintro r w13 ⟨rfl, hw13⟩
                    have S13 := Lib.hid (hw13 ▸ S12.out)
                    clear hpo S12 hw13
                    go_wp2_with fail
                    go_roundw
                    case rel =>
                      refine ⟨i + 1, by have := HII.out; omega, by first | rfl | go_num, T2, _, ⟨S13.out, by have := HW.out.1; have := hn3000.out; have := HBB.out; omega, ?_, ?_⟩⟩
                      · rw [HT2.out]; exact HW.out.2.1.take (by have := HXY.out; omega) (by have := HXY.out; omega) (by have := HXY.out; have := HNn.out; omega)
                      · rw [HT2.out]; rw [takeT_cs, delC_len (by have := HXY.out; omega) (by have := HXY.out; omega) (by have := HXY.out; have := HNn.out; omega)]; have := HW.out.2.2; omega
                    case measure => have := HII.out; simp [int2]; omega
                  case neg =>
                    have HCS := Lib.hid (⟨hc, hc2⟩ : _ ∧ _)
                    clear hc hc2
                    have hE1 : delE T 1 (x : Int) = 0 := by unfold delE; rw [if_pos (reach_iff.2 (by rw [HW.out.2.1.lo, HW.out.2.1.hi]; have := hpe.out; have := HNn.out; have := HXY.out; have := HP.out; omega))]
                    have hE2 : delE T (y : Int) (n1 : Int) = 0 := by unfold delE; rw [if_pos (reach_iff.2 (by rw [HW.out.2.1.lo, HW.out.2.1.hi]; have := hpe.out; have := HNn.out; have := HXY.out; have := HP.out; omega))]
                    have hEE : delE T (x : Int) (y : Int) = 0 := by unfold delE; rw [if_pos (reach_iff.2 (by rw [HW.out.2.1.lo, HW.out.2.1.hi]; have := hpe.out; have := HNn.out; have := HXY.out; have := HP.out; omega))]
                    have le1 : decide ((x : Int) ≤ (y : Int)) = true := decide_eq_true (by have := HXY.out; omega)
                    have le2 : ((x : Int) ≤ (y : Int)) = True := eq_true (by have := HXY.out; omega)
                    have le3 : (x ≤ y) = True := eq_true (by have := HXY.out; omega)
                    obtain ⟨hd, hhd⟩ : ∃ hd, hd = textV T 1 (x : Int) := ⟨_, rfl⟩
                    obtain ⟨tl, htl⟩ : ∃ tl, tl = textV T (y : Int) (n1 : Int) := ⟨_, rfl⟩
                    have HG1 := Lib.hid (show ∀ W, Below w5.heap.size w5 W → Calls Tryz.prog 11 #[pAt b, .int .i64 1, .int .i64 (x : Int)] W fun r w' => r = .returned (.tuple #[.string hd, .int .i64 0]) ∧ Below W.heap.size W w' from fun W hb => by
                      have q := pText (S5.out.pb.up hb) 1 (x : Int)
                      rw [hE1, ← hhd] at q; exact q)
                    have HG2 := Lib.hid (show ∀ W, Below w5.heap.size w5 W → Calls Tryz.prog 11 #[pAt b, .int .i64 (y : Int), .int .i64 (n1 : Int)] W fun r w' => r = .returned (.tuple #[.string tl, .int .i64 0]) ∧ Below W.heap.size W w' from fun W hb => by
                      have q := pText (S5.out.pb.up hb) (y : Int) (n1 : Int)
                      rw [hE2, ← htl] at q; exact q)
                    have HSZ := Lib.hid (show ∀ W, Below w5.heap.size w5 W → Calls Tryz.prog 12 #[pAt b] W fun r w' => r = .returned (.int .i64 (n : Int)) ∧ Below W.heap.size W w' from fun W hb => by
                      have q := bsize (S5.out.pb.up hb).r
                      rw [← HNn.out.1] at q; exact q)
                    have Hhd := Lib.hid hhd
                    have Htl := Lib.hid htl
                    obtain ⟨T2, hT2⟩ : ∃ T2 : Tx, T2 = takeT T x y := ⟨_, rfl⟩
                    obtain ⟨BB, hBB⟩ : ∃ BB : Nat, BB = B + T.cs.length + 4 := ⟨_, rfl⟩
                    have HBB := Lib.hid hBB
                    have HDO := Lib.hid (show ∀ W, St N w1 w1.heap.size b W T B → Calls Tryz.prog 13 #[pAt b, actV (⟨ek, (x : Int), (y : Int), eid, enm, etx, eon, eal, evk, evn, esA, esp, esc⟩ : AcE)] W (DoP N W b (fun k => w1.heap.size ≤ k) 0 T2 BB) from fun W hS => by
                      have q := do_del4 (e := (⟨ek, (x : Int), (y : Int), eid, enm, etx, eon, eal, evk, evn, esA, esp, esc⟩ : AcE)) (hS.tabs hN1.out (Nat.le_refl _) T1.out) (hS.rules hN1.out (Nat.le_refl _) R1.out) hS.pb (fun k hk => Nat.le_trans hN1.out hk) (by have := HW.out.1; have := HII.out.2; omega) HW.out.2.1.ro HTS.out (HK.out.symm)
                      rw [hEE] at q
                      first | rw [if_pos rfl] at q | rw [if_neg (by decide)] at q
                      try simp only [← HK.out] at q
                      try simp only [Int.toNat_natCast] at q
                      rw [← hBB, ← hT2] at q
                      exact q)
                    have HT2 := Lib.hid hT2
                    clear hhd htl hT2 hBB hE1 hE2 hEE
                    have a1 := (HC.out w5 S5.out.bl).c1
                    have a2 := (HC.out w5 S5.out.bl).c2
                    go_wp2_with fail
                    go_region
                    go_wp2_with fail
                    clear a1 a2
                    refine (HG1.out _ (Below.refl _ w5).drew).mono ?_
                    rintro r w6 ⟨rfl, hb6⟩
                    have B6 := Lib.hid (show Below w5.heap.size w5 w6 from ((Below.refl _ w5).drew).trans hb6)
                    clear hb6 HG1
                    go_wp2_with fail
                    refine (HSZ.out _ B6.out).mono ?_
                    rintro r w7 ⟨rfl, hb7⟩
                    have B7 := Lib.hid (up2 B6.out hb7)
                    clear hb7
                    go_wp2_with fail
                    refine (HG2.out _ B7.out).mono ?_
                    rintro r w8 ⟨rfl, hb8⟩
                    have B8 := Lib.hid (up2 B7.out hb8)
                    have S8 := Lib.hid (S5.out.up B8.out)
                    clear hb8 HG2
                    have aC := HC.out w8 S8.out.bl
                    have a0 := aC.c0
                    have a1 := aC.c1
                    have a2 := aC.c2
                    have a3 := aC.c3
                    have a4 := aC.c4
                    have a5 := aC.c5
                    have a6 := aC.c6
                    have a7 := aC.c7
                    have a8 := aC.c8
                    have a9 := aC.c9
                    have a10 := aC.c10
                    clear aC
                    simp only at a0 a1 a2 a3 a4 a5 a6 a7 a8 a9 a10
                    go_wp2_with fail
                    refine (HDO.out w8 S8.out).mono ?_
                    rintro r w9 ⟨rfl, ho9, hp9⟩
                    have S9 := Lib.hid (S8.out.next ⟨ho9, hp9⟩)
                    clear ho9 hp9 HDO a0 a1 a2 a3 a4 a5 a6 a7 a8 a9 a10
                    have a5 : w9.cell? ⟨g, o2 + i * 11 + 5, none⟩ = some (.string etx) := (HC.out w9 S9.out.bl).c5
                    go_wp2_with fail
                    have HVL := Lib.hid (show Calls Tryz.prog 7 #[.string (⟨#[]⟩ : ByteArray)] w9 fun e w' => e = .returned (.bool true) ∧ Below w9.heap.size w9 w' from by
                      have q := rvalid_any (⟨#[]⟩ : ByteArray) w9 (by first | (have := HTS.out; omega) | decide)
                      rw [vld_chars] at q
                      have hvv : (charsD (ByteArray.mk #[]).data.toList).isSome = true := rfl
                      rw [hvv] at q; exact q)
                    refine HVL.out.mono ?_
                    rintro r w10 ⟨rfl, hb10⟩
                    have S10 := Lib.hid (S9.out.up hb10)
                    clear hb10 HVL S9
                    go_wp2_with fail
                    have HMM := Lib.hid (show lenR ⟨#[]⟩ = 0 by decide)
                    have HWT := Lib.hid (show T2.S.pt = pt by rw [HT2.out]; rw [takeT_pt, ← HP.out]; unfold delN; have := hpe.out; have := hn3000.out; have := HNn.out; have := HXY.out; have := HCS.out; (repeat' split) <;> omega)
                    have HLN := Lib.hid (show Calls Tryz.prog 14 #[.string (⟨#[]⟩ : ByteArray)] w10 fun e w' => e = .returned (.int .i64 0) ∧ Below w10.heap.size w10 w' from by
                      have q := rlen_any (⟨#[]⟩ : ByteArray) w10 (by first | (have := HTS.out; omega) | decide)
                      rw [HMM.out] at q; exact q)
                    refine HLN.out.mono ?_
                    rintro r w11 ⟨rfl, hb11⟩
                    have S11 := Lib.hid (S10.out.up hb11)
                    clear hb11 HLN S10
                    have q1 : decide (((y : Nat) : Int) ≤ ((pt : Nat) : Int)) = false := decide_eq_false (by have := HCS.out; omega)
                    have q2 : (((y : Nat) : Int) ≤ ((pt : Nat) : Int)) = False := eq_false (by have := HCS.out; omega)
                    have q3 : (y ≤ pt) = False := eq_false (by have := HCS.out; omega)
                    have p1 : decide (((x : Nat) : Int) < ((pt : Nat) : Int)) = false := decide_eq_false (by have := HCS.out; omega)
                    have p2 : (((x : Nat) : Int) < ((pt : Nat) : Int)) = False := eq_false (by have := HCS.out; omega)
                    have p3 : (x < pt) = False := eq_false (by have := HCS.out; omega)
                    obtain ⟨al, hal⟩ : ∃ al, al = encS T2.cs := ⟨_, rfl⟩
                    have hcat : hd ++ (⟨#[]⟩ : ByteArray) ++ tl = al := by
                      rw [hal, HT2.out, Hhd.out, Htl.out, HNn.out.2, HNn.out.1]
                      exact (by have q := parts_take T (show 1 ≤ x by have := HXY.out; omega) (show x ≤ y by have := HXY.out; omega); rw [← q]; unfold head3 tail3 textV; rw [if_pos (reach_iff.2 (by rw [HW.out.2.1.lo, HW.out.2.1.hi]; have := hpe.out; have := HNn.out; have := HXY.out; have := HP.out; omega)), if_pos (reach_iff.2 (by rw [HW.out.2.1.lo, HW.out.2.1.hi]; have := hpe.out; have := HNn.out; have := HXY.out; have := HP.out; omega))]; rfl)
                    obtain ⟨h2, hh2⟩ : ∃ h2, hd ++ (⟨#[]⟩ : ByteArray) = h2 := ⟨_, rfl⟩
                    rw [hh2] at hcat
                    have hz1 : hd.size ≤ 20000 := by rw [Hhd.out]; exact textV_le hn3000.out _ _
                    have hz2 : tl.size ≤ 20000 := by rw [Htl.out]; exact textV_le hn3000.out _ _
                    have htz : ((⟨#[]⟩ : ByteArray) : ByteArray).size ≤ 60 := by first | exact HTS.out | decide
                    have hz3 : h2.size ≤ 20060 := by rw [← hh2, ByteArray.size_append]; omega
                    have hs1 : hd.size + ((⟨#[]⟩ : ByteArray) : ByteArray).size ≤ 9223372036854775807 := by omega
                    have hs2 : h2.size + tl.size ≤ 9223372036854775807 := by omega
                    have eal2 : (al.toList == al.toList) = true := by simp
                    have HAL := Lib.hid (show Calls Tryz.prog 9 #[pAt b] w11 fun r w' => r = .returned (.string al) ∧ Below w11.heap.size w11 w' from by
                      have q := pAll S11.out.pb
                      rw [← hal] at q; exact q)
                    clear hal hz1 hz2 hz3 htz est
                    go_wp2_with fail
                    refine HAL.out.mono ?_
                    rintro r w12 ⟨rfl, hb12⟩
                    have S12 := Lib.hid (S11.out.up hb12)
                    clear hb12 HAL S11
                    go_wp2_with fail
                    have hpo := bpoint S12.out.pb.r
                    rw [HWT.out] at hpo
                    refine hpo.mono ?_
                    rintro r w13 ⟨rfl, hw13⟩
                    have S13 := Lib.hid (hw13 ▸ S12.out)
                    clear hpo S12 hw13
                    go_wp2_with fail
                    go_roundw
                    case rel =>
                      refine ⟨i + 1, by have := HII.out; omega, by first | rfl | go_num, T2, _, ⟨S13.out, by have := HW.out.1; have := hn3000.out; have := HBB.out; omega, ?_, ?_⟩⟩
                      · rw [HT2.out]; exact HW.out.2.1.take (by have := HXY.out; omega) (by have := HXY.out; omega) (by have := HXY.out; have := HNn.out; omega)
                      · rw [HT2.out]; rw [takeT_cs, delC_len (by have := HXY.out; omega) (by have := HXY.out; omega) (by have := HXY.out; have := HNn.out; omega)]; have := HW.out.2.2; omega
                    case measure => have := HII.out; simp [int2]; omega
    · as_aux_lemma =>
        by_cases hq : 1 ≤ ea ∧ ea ≤ (n : Int) + 1
        case neg =>
          have HXY := Lib.hid hq
          clear hq
          have hE1 : delE T 1 ea = 3 := by unfold delE; rw [if_neg (fun q => by have q := reach_iff.1 q; rw [HW.out.2.1.lo, HW.out.2.1.hi] at q; have := HNn.out; have := HXY.out; omega)]
          obtain ⟨v2, hE2⟩ : ∃ v2, delE T eb (n1 : Int) = v2 := ⟨_, rfl⟩
          have hEE : delE T ea eb = 3 := by unfold delE; rw [if_neg (fun q => by have q := reach_iff.1 q; rw [HW.out.2.1.lo, HW.out.2.1.hi] at q; have := HNn.out; have := HXY.out; omega)]
          obtain ⟨hd, hhd⟩ : ∃ hd, hd = textV T 1 ea := ⟨_, rfl⟩
          obtain ⟨tl, htl⟩ : ∃ tl, tl = textV T eb (n1 : Int) := ⟨_, rfl⟩
          have HG1 := Lib.hid (show ∀ W, Below w5.heap.size w5 W → Calls Tryz.prog 11 #[pAt b, .int .i64 1, .int .i64 ea] W fun r w' => r = .returned (.tuple #[.string hd, .int .i64 3]) ∧ Below W.heap.size W w' from fun W hb => by
            have q := pText (S5.out.pb.up hb) 1 ea
            rw [hE1, ← hhd] at q; exact q)
          have HG2 := Lib.hid (show ∀ W, Below w5.heap.size w5 W → Calls Tryz.prog 11 #[pAt b, .int .i64 eb, .int .i64 (n1 : Int)] W fun r w' => r = .returned (.tuple #[.string tl, .int .i64 v2]) ∧ Below W.heap.size W w' from fun W hb => by
            have q := pText (S5.out.pb.up hb) eb (n1 : Int)
            rw [hE2, ← htl] at q; exact q)
          have HSZ := Lib.hid (show ∀ W, Below w5.heap.size w5 W → Calls Tryz.prog 12 #[pAt b] W fun r w' => r = .returned (.int .i64 (n : Int)) ∧ Below W.heap.size W w' from fun W hb => by
            have q := bsize (S5.out.pb.up hb).r
            rw [← HNn.out.1] at q; exact q)
          have Hhd := Lib.hid hhd
          have Htl := Lib.hid htl
          obtain ⟨T2, hT2⟩ : ∃ T2 : Tx, T2 = T := ⟨_, rfl⟩
          obtain ⟨BB, hBB⟩ : ∃ BB : Nat, BB = B + T.cs.length + 4 := ⟨_, rfl⟩
          have HBB := Lib.hid hBB
          have HDO := Lib.hid (show ∀ W, St N w1 w1.heap.size b W T B → Calls Tryz.prog 13 #[pAt b, actV (⟨ek, ea, eb, eid, enm, etx, eon, eal, evk, evn, esA, esp, esc⟩ : AcE)] W (DoP N W b (fun k => w1.heap.size ≤ k) 3 T2 BB) from fun W hS => by
            have q := do_del5 (e := (⟨ek, ea, eb, eid, enm, etx, eon, eal, evk, evn, esA, esp, esc⟩ : AcE)) (hS.tabs hN1.out (Nat.le_refl _) T1.out) (hS.rules hN1.out (Nat.le_refl _) R1.out) hS.pb (fun k hk => Nat.le_trans hN1.out hk) (by have := HW.out.1; have := HII.out.2; omega) HW.out.2.1.ro HTS.out (HK.out.symm)
            rw [hEE] at q
            first | rw [if_pos rfl] at q | rw [if_neg (by decide)] at q
            try simp only [← HK.out] at q
            try simp only [Int.toNat_natCast] at q
            rw [← hBB, ← hT2] at q
            exact q)
          have HT2 := Lib.hid hT2
          clear hhd htl hT2 hBB hE1 hE2 hEE
          have a1 := (HC.out w5 S5.out.bl).c1
          have a2 := (HC.out w5 S5.out.bl).c2
          go_wp2_with fail
          go_region
          go_wp2_with fail
          clear a1 a2
          refine (HG1.out _ (Below.refl _ w5).drew).mono ?_
          rintro r w6 ⟨rfl, hb6⟩
          have B6 := Lib.hid (show Below w5.heap.size w5 w6 from ((Below.refl _ w5).drew).trans hb6)
          clear hb6 HG1
          go_wp2_with fail
          refine (HSZ.out _ B6.out).mono ?_
          rintro r w7 ⟨rfl, hb7⟩
          have B7 := Lib.hid (up2 B6.out hb7)
          clear hb7
          go_wp2_with fail
          refine (HG2.out _ B7.out).mono ?_
          rintro r w8 ⟨rfl, hb8⟩
          have B8 := Lib.hid (up2 B7.out hb8)
          have S8 := Lib.hid (S5.out.up B8.out)
          clear hb8 HG2
          have aC := HC.out w8 S8.out.bl
          have a0 := aC.c0
          have a1 := aC.c1
          have a2 := aC.c2
          have a3 := aC.c3
          have a4 := aC.c4
          have a5 := aC.c5
          have a6 := aC.c6
          have a7 := aC.c7
          have a8 := aC.c8
          have a9 := aC.c9
          have a10 := aC.c10
          clear aC
          simp only at a0 a1 a2 a3 a4 a5 a6 a7 a8 a9 a10
          go_wp2_with fail
          refine (HDO.out w8 S8.out).mono ?_
          rintro r w9 ⟨rfl, ho9, hp9⟩
          have S9 := Lib.hid (S8.out.next ⟨ho9, hp9⟩)
          clear ho9 hp9 HDO a0 a1 a2 a3 a4 a5 a6 a7 a8 a9 a10
          have a5 : w9.cell? ⟨g, o2 + i * 11 + 5, none⟩ = some (.string etx) := (HC.out w9 S9.out.bl).c5
          go_wp2_with fail
          have S10 := Lib.hid S9.out
          clear S9
          rw [HT2.out] at S10
          have hal := pAll S10.out.pb
          rw [← HST.out] at hal
          refine hal.mono ?_
          rintro r w11 ⟨rfl, hb11⟩
          have S11 := Lib.hid (S10.out.up hb11)
          clear hb11 hal S10
          go_wp2_with fail
          have hpo := bpoint S11.out.pb.r
          rw [← HP.out] at hpo
          refine hpo.mono ?_
          rintro r w12 ⟨rfl, hw12⟩
          have S12 := Lib.hid (hw12 ▸ S11.out)
          clear hpo S11 hw12
          go_wp2_with fail
          go_roundw
          case rel => exact ⟨i + 1, by have := HII.out; omega, by first | rfl | go_num, T, _, ⟨S12.out, by have := HW.out.1; have := hn3000.out; have := HBB.out; omega, HW.out.2.1, by have := HW.out.2.2; omega⟩⟩
          case measure => have := HII.out; simp [int2]; omega
        case pos =>
          by_cases hq2 : 1 ≤ eb ∧ eb ≤ (n : Int) + 1
          case neg =>
            have HXY := Lib.hid (⟨hq, hq2⟩ : _ ∧ _)
            clear hq hq2
            have hE1 : delE T 1 ea = 0 := by unfold delE; rw [if_pos (reach_iff.2 (by rw [HW.out.2.1.lo, HW.out.2.1.hi]; have := hpe.out; have := HNn.out; have := HXY.out; have := HP.out; omega))]
            have hE2 : delE T eb (n1 : Int) = 3 := by unfold delE; rw [if_neg (fun q => by have q := reach_iff.1 q; rw [HW.out.2.1.lo, HW.out.2.1.hi] at q; have := HNn.out; have := HXY.out; omega)]
            have hEE : delE T ea eb = 3 := by unfold delE; rw [if_neg (fun q => by have q := reach_iff.1 q; rw [HW.out.2.1.lo, HW.out.2.1.hi] at q; have := HNn.out; have := HXY.out; omega)]
            obtain ⟨hd, hhd⟩ : ∃ hd, hd = textV T 1 ea := ⟨_, rfl⟩
            obtain ⟨tl, htl⟩ : ∃ tl, tl = textV T eb (n1 : Int) := ⟨_, rfl⟩
            have HG1 := Lib.hid (show ∀ W, Below w5.heap.size w5 W → Calls Tryz.prog 11 #[pAt b, .int .i64 1, .int .i64 ea] W fun r w' => r = .returned (.tuple #[.string hd, .int .i64 0]) ∧ Below W.heap.size W w' from fun W hb => by
              have q := pText (S5.out.pb.up hb) 1 ea
              rw [hE1, ← hhd] at q; exact q)
            have HG2 := Lib.hid (show ∀ W, Below w5.heap.size w5 W → Calls Tryz.prog 11 #[pAt b, .int .i64 eb, .int .i64 (n1 : Int)] W fun r w' => r = .returned (.tuple #[.string tl, .int .i64 3]) ∧ Below W.heap.size W w' from fun W hb => by
              have q := pText (S5.out.pb.up hb) eb (n1 : Int)
              rw [hE2, ← htl] at q; exact q)
            have HSZ := Lib.hid (show ∀ W, Below w5.heap.size w5 W → Calls Tryz.prog 12 #[pAt b] W fun r w' => r = .returned (.int .i64 (n : Int)) ∧ Below W.heap.size W w' from fun W hb => by
              have q := bsize (S5.out.pb.up hb).r
              rw [← HNn.out.1] at q; exact q)
            have Hhd := Lib.hid hhd
            have Htl := Lib.hid htl
            obtain ⟨T2, hT2⟩ : ∃ T2 : Tx, T2 = T := ⟨_, rfl⟩
            obtain ⟨BB, hBB⟩ : ∃ BB : Nat, BB = B + T.cs.length + 4 := ⟨_, rfl⟩
            have HBB := Lib.hid hBB
            have HDO := Lib.hid (show ∀ W, St N w1 w1.heap.size b W T B → Calls Tryz.prog 13 #[pAt b, actV (⟨ek, ea, eb, eid, enm, etx, eon, eal, evk, evn, esA, esp, esc⟩ : AcE)] W (DoP N W b (fun k => w1.heap.size ≤ k) 3 T2 BB) from fun W hS => by
              have q := do_del5 (e := (⟨ek, ea, eb, eid, enm, etx, eon, eal, evk, evn, esA, esp, esc⟩ : AcE)) (hS.tabs hN1.out (Nat.le_refl _) T1.out) (hS.rules hN1.out (Nat.le_refl _) R1.out) hS.pb (fun k hk => Nat.le_trans hN1.out hk) (by have := HW.out.1; have := HII.out.2; omega) HW.out.2.1.ro HTS.out (HK.out.symm)
              rw [hEE] at q
              first | rw [if_pos rfl] at q | rw [if_neg (by decide)] at q
              try simp only [← HK.out] at q
              try simp only [Int.toNat_natCast] at q
              rw [← hBB, ← hT2] at q
              exact q)
            have HT2 := Lib.hid hT2
            clear hhd htl hT2 hBB hE1 hE2 hEE
            have a1 := (HC.out w5 S5.out.bl).c1
            have a2 := (HC.out w5 S5.out.bl).c2
            go_wp2_with fail
            go_region
            go_wp2_with fail
            clear a1 a2
            refine (HG1.out _ (Below.refl _ w5).drew).mono ?_
            rintro r w6 ⟨rfl, hb6⟩
            have B6 := Lib.hid (show Below w5.heap.size w5 w6 from ((Below.refl _ w5).drew).trans hb6)
            clear hb6 HG1
            go_wp2_with fail
            refine (HSZ.out _ B6.out).mono ?_
            rintro r w7 ⟨rfl, hb7⟩
            have B7 := Lib.hid (up2 B6.out hb7)
            clear hb7
            go_wp2_with fail
            refine (HG2.out _ B7.out).mono ?_
            rintro r w8 ⟨rfl, hb8⟩
            have B8 := Lib.hid (up2 B7.out hb8)
            have S8 := Lib.hid (S5.out.up B8.out)
            clear hb8 HG2
            have aC := HC.out w8 S8.out.bl
            have a0 := aC.c0
            have a1 := aC.c1
            have a2 := aC.c2
            have a3 := aC.c3
            have a4 := aC.c4
            have a5 := aC.c5
            have a6 := aC.c6
            have a7 := aC.c7
            have a8 := aC.c8
            have a9 := aC.c9
            have a10 := aC.c10
            clear aC
            simp only at a0 a1 a2 a3 a4 a5 a6 a7 a8 a9 a10
            go_wp2_with fail
            refine (HDO.out w8 S8.out).mono ?_
            rintro r w9 ⟨rfl, ho9, hp9⟩
            have S9 := Lib.hid (S8.out.next ⟨ho9, hp9⟩)
            clear ho9 hp9 HDO a0 a1 a2 a3 a4 a5 a6 a7 a8 a9 a10
            have a5 : w9.cell? ⟨g, o2 + i * 11 + 5, none⟩ = some (.string etx) := (HC.out w9 S9.out.bl).c5
            go_wp2_with fail
            have S10 := Lib.hid S9.out
            clear S9
            rw [HT2.out] at S10
            have hal := pAll S10.out.pb
            rw [← HST.out] at hal
            refine hal.mono ?_
            rintro r w11 ⟨rfl, hb11⟩
            have S11 := Lib.hid (S10.out.up hb11)
            clear hb11 hal S10
            go_wp2_with fail
            have hpo := bpoint S11.out.pb.r
            rw [← HP.out] at hpo
            refine hpo.mono ?_
            rintro r w12 ⟨rfl, hw12⟩
            have S12 := Lib.hid (hw12 ▸ S11.out)
            clear hpo S11 hw12
            go_wp2_with fail
            go_roundw
            case rel => exact ⟨i + 1, by have := HII.out; omega, by first | rfl | go_num, T, _, ⟨S12.out, by have := HW.out.1; have := hn3000.out; have := HBB.out; omega, HW.out.2.1, by have := HW.out.2.2; omega⟩⟩
            case measure => have := HII.out; simp [int2]; omega
          case pos =>
            by_cases hq3 : ea ≤ eb
            case neg =>
              have HXY := Lib.hid (⟨hq, hq2, hq3⟩ : _ ∧ _ ∧ _)
              clear hq hq2 hq3
              have hE1 : delE T 1 ea = 0 := by unfold delE; rw [if_pos (reach_iff.2 (by rw [HW.out.2.1.lo, HW.out.2.1.hi]; have := hpe.out; have := HNn.out; have := HXY.out; have := HP.out; omega))]
              have hE2 : delE T eb (n1 : Int) = 0 := by unfold delE; rw [if_pos (reach_iff.2 (by rw [HW.out.2.1.lo, HW.out.2.1.hi]; have := hpe.out; have := HNn.out; have := HXY.out; have := HP.out; omega))]
              have hEE : delE T ea eb = 3 := by unfold delE; rw [if_neg (fun q => by have q := reach_iff.1 q; rw [HW.out.2.1.lo, HW.out.2.1.hi] at q; have := HNn.out; have := HXY.out; omega)]
              have le1 : decide (ea ≤ eb) = false := decide_eq_false (by have := HXY.out; omega)
              have le2 : (ea ≤ eb) = False := eq_false (by have := HXY.out; omega)
              obtain ⟨hd, hhd⟩ : ∃ hd, hd = textV T 1 ea := ⟨_, rfl⟩
              obtain ⟨tl, htl⟩ : ∃ tl, tl = textV T eb (n1 : Int) := ⟨_, rfl⟩
              have HG1 := Lib.hid (show ∀ W, Below w5.heap.size w5 W → Calls Tryz.prog 11 #[pAt b, .int .i64 1, .int .i64 ea] W fun r w' => r = .returned (.tuple #[.string hd, .int .i64 0]) ∧ Below W.heap.size W w' from fun W hb => by
                have q := pText (S5.out.pb.up hb) 1 ea
                rw [hE1, ← hhd] at q; exact q)
              have HG2 := Lib.hid (show ∀ W, Below w5.heap.size w5 W → Calls Tryz.prog 11 #[pAt b, .int .i64 eb, .int .i64 (n1 : Int)] W fun r w' => r = .returned (.tuple #[.string tl, .int .i64 0]) ∧ Below W.heap.size W w' from fun W hb => by
                have q := pText (S5.out.pb.up hb) eb (n1 : Int)
                rw [hE2, ← htl] at q; exact q)
              have HSZ := Lib.hid (show ∀ W, Below w5.heap.size w5 W → Calls Tryz.prog 12 #[pAt b] W fun r w' => r = .returned (.int .i64 (n : Int)) ∧ Below W.heap.size W w' from fun W hb => by
                have q := bsize (S5.out.pb.up hb).r
                rw [← HNn.out.1] at q; exact q)
              have Hhd := Lib.hid hhd
              have Htl := Lib.hid htl
              obtain ⟨T2, hT2⟩ : ∃ T2 : Tx, T2 = T := ⟨_, rfl⟩
              obtain ⟨BB, hBB⟩ : ∃ BB : Nat, BB = B + T.cs.length + 4 := ⟨_, rfl⟩
              have HBB := Lib.hid hBB
              have HDO := Lib.hid (show ∀ W, St N w1 w1.heap.size b W T B → Calls Tryz.prog 13 #[pAt b, actV (⟨ek, ea, eb, eid, enm, etx, eon, eal, evk, evn, esA, esp, esc⟩ : AcE)] W (DoP N W b (fun k => w1.heap.size ≤ k) 3 T2 BB) from fun W hS => by
                have q := do_del5 (e := (⟨ek, ea, eb, eid, enm, etx, eon, eal, evk, evn, esA, esp, esc⟩ : AcE)) (hS.tabs hN1.out (Nat.le_refl _) T1.out) (hS.rules hN1.out (Nat.le_refl _) R1.out) hS.pb (fun k hk => Nat.le_trans hN1.out hk) (by have := HW.out.1; have := HII.out.2; omega) HW.out.2.1.ro HTS.out (HK.out.symm)
                rw [hEE] at q
                first | rw [if_pos rfl] at q | rw [if_neg (by decide)] at q
                try simp only [← HK.out] at q
                try simp only [Int.toNat_natCast] at q
                rw [← hBB, ← hT2] at q
                exact q)
              have HT2 := Lib.hid hT2
              clear hhd htl hT2 hBB hE1 hE2 hEE
              have a1 := (HC.out w5 S5.out.bl).c1
              have a2 := (HC.out w5 S5.out.bl).c2
              go_wp2_with fail
              go_region
              go_wp2_with fail
              clear a1 a2
              refine (HG1.out _ (Below.refl _ w5).drew).mono ?_
              rintro r w6 ⟨rfl, hb6⟩
              have B6 := Lib.hid (show Below w5.heap.size w5 w6 from ((Below.refl _ w5).drew).trans hb6)
              clear hb6 HG1
              go_wp2_with fail
              refine (HSZ.out _ B6.out).mono ?_
              rintro r w7 ⟨rfl, hb7⟩
              have B7 := Lib.hid (up2 B6.out hb7)
              clear hb7
              go_wp2_with fail
              refine (HG2.out _ B7.out).mono ?_
              rintro r w8 ⟨rfl, hb8⟩
              have B8 := Lib.hid (up2 B7.out hb8)
              have S8 := Lib.hid (S5.out.up B8.out)
              clear hb8 HG2
              have aC := HC.out w8 S8.out.bl
              have a0 := aC.c0
              have a1 := aC.c1
              have a2 := aC.c2
              have a3 := aC.c3
              have a4 := aC.c4
              have a5 := aC.c5
              have a6 := aC.c6
              have a7 := aC.c7
              have a8 := aC.c8
              have a9 := aC.c9
              have a10 := aC.c10
              clear aC
              simp only at a0 a1 a2 a3 a4 a5 a6 a7 a8 a9 a10
              go_wp2_with fail
              refine (HDO.out w8 S8.out).mono ?_
              rintro r w9 ⟨rfl, ho9, hp9⟩
              have S9 := Lib.hid (S8.out.next ⟨ho9, hp9⟩)
              clear ho9 hp9 HDO a0 a1 a2 a3 a4 a5 a6 a7 a8 a9 a10
              have a5 : w9.cell? ⟨g, o2 + i * 11 + 5, none⟩ = some (.string etx) := (HC.out w9 S9.out.bl).c5
              go_wp2_with fail
              have S10 := Lib.hid S9.out
              clear S9
              rw [HT2.out] at S10
              have hal := pAll S10.out.pb
              rw [← HST.out] at hal
              refine hal.mono ?_
              rintro r w11 ⟨rfl, hb11⟩
              have S11 := Lib.hid (S10.out.up hb11)
              clear hb11 hal S10
              go_wp2_with fail
              have hpo := bpoint S11.out.pb.r
              rw [← HP.out] at hpo
              refine hpo.mono ?_
              rintro r w12 ⟨rfl, hw12⟩
              have S12 := Lib.hid (hw12 ▸ S11.out)
              clear hpo S11 hw12
              go_wp2_with fail
              go_roundw
              case rel => exact ⟨i + 1, by have := HII.out; omega, by first | rfl | go_num, T, _, ⟨S12.out, by have := HW.out.1; have := hn3000.out; have := HBB.out; omega, HW.out.2.1, by have := HW.out.2.2; omega⟩⟩
              case measure => have := HII.out; simp [int2]; omega
            case pos =>
              obtain ⟨x, rfl⟩ : ∃ x : Nat, ea = x := ⟨ea.toNat, by omega⟩
              obtain ⟨y, rfl⟩ : ∃ y : Nat, eb = y := ⟨eb.toNat, by omega⟩
              have HXY := Lib.hid (show 1 ≤ x ∧ x ≤ y ∧ y ≤ n + 1 by omega)
              clear hq hq2 hq3
              as_aux_lemma =>
                by_cases hc : y ≤ pt
                case pos =>
                  have HCS0 := Lib.hid hc
                  clear hc
                  obtain ⟨dd, hdd⟩ : ∃ dd : Nat, dd = y - x := ⟨_, rfl⟩
                  obtain ⟨ww, hww⟩ : ∃ ww : Nat, ww = pt - dd := ⟨_, rfl⟩
                  have HDD := Lib.hid (⟨hdd, hww⟩ : _ ∧ _)
                  clear hdd hww
                  by_cases hc3 : x < ww
                  case pos =>
                    have HCS := Lib.hid (⟨HCS0.out, hc3⟩ : _ ∧ _)
                    clear hc3
                    have hE1 : delE T 1 (x : Int) = 0 := by unfold delE; rw [if_pos (reach_iff.2 (by rw [HW.out.2.1.lo, HW.out.2.1.hi]; have := hpe.out; have := HNn.out; have := HXY.out; have := HP.out; omega))]
                    have hE2 : delE T (y : Int) (n1 : Int) = 0 := by unfold delE; rw [if_pos (reach_iff.2 (by rw [HW.out.2.1.lo, HW.out.2.1.hi]; have := hpe.out; have := HNn.out; have := HXY.out; have := HP.out; omega))]
                    have hEE : delE T (x : Int) (y : Int) = 0 := by unfold delE; rw [if_pos (reach_iff.2 (by rw [HW.out.2.1.lo, HW.out.2.1.hi]; have := hpe.out; have := HNn.out; have := HXY.out; have := HP.out; omega))]
                    have le1 : decide ((x : Int) ≤ (y : Int)) = true := decide_eq_true (by have := HXY.out; omega)
                    have le2 : ((x : Int) ≤ (y : Int)) = True := eq_true (by have := HXY.out; omega)
                    have le3 : (x ≤ y) = True := eq_true (by have := HXY.out; omega)
                    obtain ⟨hd, hhd⟩ : ∃ hd, hd = textV T 1 (x : Int) := ⟨_, rfl⟩
                    obtain ⟨tl, htl⟩ : ∃ tl, tl = textV T (y : Int) (n1 : Int) := ⟨_, rfl⟩
                    have HG1 := Lib.hid (show ∀ W, Below w5.heap.size w5 W → Calls Tryz.prog 11 #[pAt b, .int .i64 1, .int .i64 (x : Int)] W fun r w' => r = .returned (.tuple #[.string hd, .int .i64 0]) ∧ Below W.heap.size W w' from fun W hb => by
                      have q := pText (S5.out.pb.up hb) 1 (x : Int)
                      rw [hE1, ← hhd] at q; exact q)
                    have HG2 := Lib.hid (show ∀ W, Below w5.heap.size w5 W → Calls Tryz.prog 11 #[pAt b, .int .i64 (y : Int), .int .i64 (n1 : Int)] W fun r w' => r = .returned (.tuple #[.string tl, .int .i64 0]) ∧ Below W.heap.size W w' from fun W hb => by
                      have q := pText (S5.out.pb.up hb) (y : Int) (n1 : Int)
                      rw [hE2, ← htl] at q; exact q)
                    have HSZ := Lib.hid (show ∀ W, Below w5.heap.size w5 W → Calls Tryz.prog 12 #[pAt b] W fun r w' => r = .returned (.int .i64 (n : Int)) ∧ Below W.heap.size W w' from fun W hb => by
                      have q := bsize (S5.out.pb.up hb).r
                      rw [← HNn.out.1] at q; exact q)
                    have Hhd := Lib.hid hhd
                    have Htl := Lib.hid htl
                    obtain ⟨T2, hT2⟩ : ∃ T2 : Tx, T2 = takeT T x y := ⟨_, rfl⟩
                    obtain ⟨BB, hBB⟩ : ∃ BB : Nat, BB = B + T.cs.length + 4 := ⟨_, rfl⟩
                    have HBB := Lib.hid hBB
                    have HDO := Lib.hid (show ∀ W, St N w1 w1.heap.size b W T B → Calls Tryz.prog 13 #[pAt b, actV (⟨ek, (x : Int), (y : Int), eid, enm, etx, eon, eal, evk, evn, esA, esp, esc⟩ : AcE)] W (DoP N W b (fun k => w1.heap.size ≤ k) 0 T2 BB) from fun W hS => by
                      have q := do_del5 (e := (⟨ek, (x : Int), (y : Int), eid, enm, etx, eon, eal, evk, evn, esA, esp, esc⟩ : AcE)) (hS.tabs hN1.out (Nat.le_refl _) T1.out) (hS.rules hN1.out (Nat.le_refl _) R1.out) hS.pb (fun k hk => Nat.le_trans hN1.out hk) (by have := HW.out.1; have := HII.out.2; omega) HW.out.2.1.ro HTS.out (HK.out.symm)
                      rw [hEE] at q
                      first | rw [if_pos rfl] at q | rw [if_neg (by decide)] at q
                      try simp only [← HK.out] at q
                      try simp only [Int.toNat_natCast] at q
                      rw [← hBB, ← hT2] at q
                      exact q)
                    have HT2 := Lib.hid hT2
                    clear hhd htl hT2 hBB hE1 hE2 hEE
                    have a1 := (HC.out w5 S5.out.bl).c1
                    have a2 := (HC.out w5 S5.out.bl).c2
                    go_wp2_with fail
                    go_region
                    go_wp2_with fail
                    clear a1 a2
                    refine (HG1.out _ (Below.refl _ w5).drew).mono ?_
                    rintro r w6 ⟨rfl, hb6⟩
                    have B6 := Lib.hid (show Below w5.heap.size w5 w6 from ((Below.refl _ w5).drew).trans hb6)
                    clear hb6 HG1
                    go_wp2_with fail
                    refine (HSZ.out _ B6.out).mono ?_
                    rintro r w7 ⟨rfl, hb7⟩
                    have B7 := Lib.hid (up2 B6.out hb7)
                    clear hb7
                    go_wp2_with fail
                    refine (HG2.out _ B7.out).mono ?_
                    rintro r w8 ⟨rfl, hb8⟩
                    have B8 := Lib.hid (up2 B7.out hb8)
                    have S8 := Lib.hid (S5.out.up B8.out)
                    clear hb8 HG2
                    have aC := HC.out w8 S8.out.bl
                    have a0 := aC.c0
                    have a1 := aC.c1
                    have a2 := aC.c2
                    have a3 := aC.c3
                    have a4 := aC.c4
                    have a5 := aC.c5
                    have a6 := aC.c6
                    have a7 := aC.c7
                    have a8 := aC.c8
                    have a9 := aC.c9
                    have a10 := aC.c10
                    clear aC
                    simp only at a0 a1 a2 a3 a4 a5 a6 a7 a8 a9 a10
                    go_wp2_with fail
                    refine (HDO.out w8 S8.out).mono ?_
                    rintro r w9 ⟨rfl, ho9, hp9⟩
                    have S9 := Lib.hid (S8.out.next ⟨ho9, hp9⟩)
                    clear ho9 hp9 HDO a0 a1 a2 a3 a4 a5 a6 a7 a8 a9 a10
                    have a5 : w9.cell? ⟨g, o2 + i * 11 + 5, none⟩ = some (.string etx) := (HC.out w9 S9.out.bl).c5
                    go_wp2_with fail
                    have HVL := Lib.hid (show Calls Tryz.prog 7 #[.string (⟨#[]⟩ : ByteArray)] w9 fun e w' => e = .returned (.bool true) ∧ Below w9.heap.size w9 w' from by
                      have q := rvalid_any (⟨#[]⟩ : ByteArray) w9 (by first | (have := HTS.out; omega) | decide)
                      rw [vld_chars] at q
                      have hvv : (charsD (ByteArray.mk #[]).data.toList).isSome = true := rfl
                      rw [hvv] at q; exact q)
                    refine HVL.out.mono ?_
                    rintro r w10 ⟨rfl, hb10⟩
                    have S10 := Lib.hid (S9.out.up hb10)
                    clear hb10 HVL S9
                    go_wp2_with fail
                    have HMM := Lib.hid (show lenR ⟨#[]⟩ = 0 by decide)
                    have HWT := Lib.hid (show T2.S.pt = ww by rw [HT2.out]; rw [takeT_pt, ← HP.out]; unfold delN; have := hpe.out; have := hn3000.out; have := HNn.out; have := HXY.out; have := HCS.out; have := HDD.out; (repeat' split) <;> omega)
                    have HLN := Lib.hid (show Calls Tryz.prog 14 #[.string (⟨#[]⟩ : ByteArray)] w10 fun e w' => e = .returned (.int .i64 0) ∧ Below w10.heap.size w10 w' from by
                      have q := rlen_any (⟨#[]⟩ : ByteArray) w10 (by first | (have := HTS.out; omega) | decide)
                      rw [HMM.out] at q; exact q)
                    refine HLN.out.mono ?_
                    rintro r w11 ⟨rfl, hb11⟩
                    have S11 := Lib.hid (S10.out.up hb11)
                    clear hb11 HLN S10
                    have sdd : IntKind.i64.wrap ((y : Int) - (x : Int)) = (dd : Int) := by rw [IntWalk.i64_in _ (by have := hpe.out; have := hn3000.out; have := HNn.out; have := HXY.out; omega)]; have := HDD.out; have := HXY.out; omega
                    have sww : IntKind.i64.wrap ((pt : Int) - (dd : Int)) = (ww : Int) := by rw [IntWalk.i64_in _ (by have := hpe.out; have := hn3000.out; have := HNn.out; have := HXY.out; have := HDD.out; omega)]; have := HDD.out; have := HCS.out; have := HXY.out; omega
                    have sw2 : IntKind.i64.wrap (ww : Int) = (ww : Int) := IntWalk.i64_in _ (by have := hpe.out; have := hn3000.out; have := HNn.out; have := HXY.out; have := HDD.out; omega)
                    have q1 : decide (((y : Nat) : Int) ≤ ((pt : Nat) : Int)) = true := decide_eq_true (by have := HCS.out; omega)
                    have q2 : (((y : Nat) : Int) ≤ ((pt : Nat) : Int)) = True := eq_true (by have := HCS.out; omega)
                    have q3 : (y ≤ pt) = True := eq_true (by have := HCS.out; omega)
                    have p1 : decide (((x : Nat) : Int) < ((ww : Nat) : Int)) = true := decide_eq_true (by have := HCS.out; omega)
                    have p2 : (((x : Nat) : Int) < ((ww : Nat) : Int)) = True := eq_true (by have := HCS.out; omega)
                    have p3 : (x < ww) = True := eq_true (by have := HCS.out; omega)
                    obtain ⟨al, hal⟩ : ∃ al, al = encS T2.cs := ⟨_, rfl⟩
                    have hcat : hd ++ (⟨#[]⟩ : ByteArray) ++ tl = al := by
                      rw [hal, HT2.out, Hhd.out, Htl.out, HNn.out.2, HNn.out.1]
                      exact (by have q := parts_take T (show 1 ≤ x by have := HXY.out; omega) (show x ≤ y by have := HXY.out; omega); rw [← q]; unfold head3 tail3 textV; rw [if_pos (reach_iff.2 (by rw [HW.out.2.1.lo, HW.out.2.1.hi]; have := hpe.out; have := HNn.out; have := HXY.out; have := HP.out; omega)), if_pos (reach_iff.2 (by rw [HW.out.2.1.lo, HW.out.2.1.hi]; have := hpe.out; have := HNn.out; have := HXY.out; have := HP.out; omega))]; rfl)
                    obtain ⟨h2, hh2⟩ : ∃ h2, hd ++ (⟨#[]⟩ : ByteArray) = h2 := ⟨_, rfl⟩
                    rw [hh2] at hcat
                    have hz1 : hd.size ≤ 20000 := by rw [Hhd.out]; exact textV_le hn3000.out _ _
                    have hz2 : tl.size ≤ 20000 := by rw [Htl.out]; exact textV_le hn3000.out _ _
                    have htz : ((⟨#[]⟩ : ByteArray) : ByteArray).size ≤ 60 := by first | exact HTS.out | decide
                    have hz3 : h2.size ≤ 20060 := by rw [← hh2, ByteArray.size_append]; omega
                    have hs1 : hd.size + ((⟨#[]⟩ : ByteArray) : ByteArray).size ≤ 9223372036854775807 := by omega
                    have hs2 : h2.size + tl.size ≤ 9223372036854775807 := by omega
                    have eal2 : (al.toList == al.toList) = true := by simp
                    have HAL := Lib.hid (show Calls Tryz.prog 9 #[pAt b] w11 fun r w' => r = .returned (.string al) ∧ Below w11.heap.size w11 w' from by
                      have q := pAll S11.out.pb
                      rw [← hal] at q; exact q)
                    clear hal hz1 hz2 hz3 htz est
                    go_wp2_with fail
                    refine HAL.out.mono ?_
                    rintro r w12 ⟨rfl, hb12⟩
                    have S12 := Lib.hid (S11.out.up hb12)
                    clear hb12 HAL S11
                    go_wp2_with fail
                    have hpo := bpoint S12.out.pb.r
                    rw [HWT.out] at hpo
                    refine hpo.mono ?_
                    rintro r w13 ⟨rfl, hw13⟩
                    have S13 := Lib.hid (hw13 ▸ S12.out)
                    clear hpo S12 hw13
                    go_wp2_with fail
                    go_roundw
                    case rel =>
                      refine ⟨i + 1, by have := HII.out; omega, by first | rfl | go_num, T2, _, ⟨S13.out, by have := HW.out.1; have := hn3000.out; have := HBB.out; omega, ?_, ?_⟩⟩
                      · rw [HT2.out]; exact HW.out.2.1.take (by have := HXY.out; omega) (by have := HXY.out; omega) (by have := HXY.out; have := HNn.out; omega)
                      · rw [HT2.out]; rw [takeT_cs, delC_len (by have := HXY.out; omega) (by have := HXY.out; omega) (by have := HXY.out; have := HNn.out; omega)]; have := HW.out.2.2; omega
                    case measure => have := HII.out; simp [int2]; omega
                  case neg =>
                    have HCS := Lib.hid (⟨HCS0.out, hc3⟩ : _ ∧ _)
                    clear hc3
                    have hE1 : delE T 1 (x : Int) = 0 := by unfold delE; rw [if_pos (reach_iff.2 (by rw [HW.out.2.1.lo, HW.out.2.1.hi]; have := hpe.out; have := HNn.out; have := HXY.out; have := HP.out; omega))]
                    have hE2 : delE T (y : Int) (n1 : Int) = 0 := by unfold delE; rw [if_pos (reach_iff.2 (by rw [HW.out.2.1.lo, HW.out.2.1.hi]; have := hpe.out; have := HNn.out; have := HXY.out; have := HP.out; omega))]
                    have hEE : delE T (x : Int) (y : Int) = 0 := by unfold delE; rw [if_pos (reach_iff.2 (by rw [HW.out.2.1.lo, HW.out.2.1.hi]; have := hpe.out; have := HNn.out; have := HXY.out; have := HP.out; omega))]
                    have le1 : decide ((x : Int) ≤ (y : Int)) = true := decide_eq_true (by have := HXY.out; omega)
                    have le2 : ((x : Int) ≤ (y : Int)) = True := eq_true (by have := HXY.out; omega)
                    have le3 : (x ≤ y) = True := eq_true (by have := HXY.out; omega)
                    obtain ⟨hd, hhd⟩ : ∃ hd, hd = textV T 1 (x : Int) := ⟨_, rfl⟩
                    obtain ⟨tl, htl⟩ : ∃ tl, tl = textV T (y : Int) (n1 : Int) := ⟨_, rfl⟩
                    have HG1 := Lib.hid (show ∀ W, Below w5.heap.size w5 W → Calls Tryz.prog 11 #[pAt b, .int .i64 1, .int .i64 (x : Int)] W fun r w' => r = .returned (.tuple #[.string hd, .int .i64 0]) ∧ Below W.heap.size W w' from fun W hb => by
                      have q := pText (S5.out.pb.up hb) 1 (x : Int)
                      rw [hE1, ← hhd] at q; exact q)
                    have HG2 := Lib.hid (show ∀ W, Below w5.heap.size w5 W → Calls Tryz.prog 11 #[pAt b, .int .i64 (y : Int), .int .i64 (n1 : Int)] W fun r w' => r = .returned (.tuple #[.string tl, .int .i64 0]) ∧ Below W.heap.size W w' from fun W hb => by
                      have q := pText (S5.out.pb.up hb) (y : Int) (n1 : Int)
                      rw [hE2, ← htl] at q; exact q)
                    have HSZ := Lib.hid (show ∀ W, Below w5.heap.size w5 W → Calls Tryz.prog 12 #[pAt b] W fun r w' => r = .returned (.int .i64 (n : Int)) ∧ Below W.heap.size W w' from fun W hb => by
                      have q := bsize (S5.out.pb.up hb).r
                      rw [← HNn.out.1] at q; exact q)
                    have Hhd := Lib.hid hhd
                    have Htl := Lib.hid htl
                    obtain ⟨T2, hT2⟩ : ∃ T2 : Tx, T2 = takeT T x y := ⟨_, rfl⟩
                    obtain ⟨BB, hBB⟩ : ∃ BB : Nat, BB = B + T.cs.length + 4 := ⟨_, rfl⟩
                    have HBB := Lib.hid hBB
                    have HDO := Lib.hid (show ∀ W, St N w1 w1.heap.size b W T B → Calls Tryz.prog 13 #[pAt b, actV (⟨ek, (x : Int), (y : Int), eid, enm, etx, eon, eal, evk, evn, esA, esp, esc⟩ : AcE)] W (DoP N W b (fun k => w1.heap.size ≤ k) 0 T2 BB) from fun W hS => by
                      have q := do_del5 (e := (⟨ek, (x : Int), (y : Int), eid, enm, etx, eon, eal, evk, evn, esA, esp, esc⟩ : AcE)) (hS.tabs hN1.out (Nat.le_refl _) T1.out) (hS.rules hN1.out (Nat.le_refl _) R1.out) hS.pb (fun k hk => Nat.le_trans hN1.out hk) (by have := HW.out.1; have := HII.out.2; omega) HW.out.2.1.ro HTS.out (HK.out.symm)
                      rw [hEE] at q
                      first | rw [if_pos rfl] at q | rw [if_neg (by decide)] at q
                      try simp only [← HK.out] at q
                      try simp only [Int.toNat_natCast] at q
                      rw [← hBB, ← hT2] at q
                      exact q)
                    have HT2 := Lib.hid hT2
                    clear hhd htl hT2 hBB hE1 hE2 hEE
                    have a1 := (HC.out w5 S5.out.bl).c1
                    have a2 := (HC.out w5 S5.out.bl).c2
                    go_wp2_with fail
                    go_region
                    go_wp2_with fail
                    clear a1 a2
                    refine (HG1.out _ (Below.refl _ w5).drew).mono ?_
                    rintro r w6 ⟨rfl, hb6⟩
                    have B6 := Lib.hid (show Below w5.heap.size w5 w6 from ((Below.refl _ w5).drew).trans hb6)
                    clear hb6 HG1
                    go_wp2_with fail
                    refine (HSZ.out _ B6.out).mono ?_
                    rintro r w7 ⟨rfl, hb7⟩
                    have B7 := Lib.hid (up2 B6.out hb7)
                    clear hb7
                    go_wp2_with fail
                    refine (HG2.out _ B7.out).mono ?_
                    rintro r w8 ⟨rfl, hb8⟩
                    have B8 := Lib.hid (up2 B7.out hb8)
                    have S8 := Lib.hid (S5.out.up B8.out)
                    clear hb8 HG2
                    have aC := HC.out w8 S8.out.bl
                    have a0 := aC.c0
                    have a1 := aC.c1
                    have a2 := aC.c2
                    have a3 := aC.c3
                    have a4 := aC.c4
                    have a5 := aC.c5
                    have a6 := aC.c6
                    have a7 := aC.c7
                    have a8 := aC.c8
                    have a9 := aC.c9
                    have a10 := aC.c10
                    clear aC
                    simp only at a0 a1 a2 a3 a4 a5 a6 a7 a8 a9 a10
                    go_wp2_with fail
                    refine (HDO.out w8 S8.out).mono ?_
                    rintro r w9 ⟨rfl, ho9, hp9⟩
                    have S9 := Lib.hid (S8.out.next ⟨ho9, hp9⟩)
                    clear ho9 hp9 HDO a0 a1 a2 a3 a4 a5 a6 a7 a8 a9 a10
                    have a5 : w9.cell? ⟨g, o2 + i * 11 + 5, none⟩ = some (.string etx) := (HC.out w9 S9.out.bl).c5
                    go_wp2_with fail
                    have HVL := Lib.hid (show Calls Tryz.prog 7 #[.string (⟨#[]⟩ : ByteArray)] w9 fun e w' => e = .returned (.bool true) ∧ Below w9.heap.size w9 w' from by
                      have q := rvalid_any (⟨#[]⟩ : ByteArray) w9 (by first | (have := HTS.out; omega) | decide)
                      rw [vld_chars] at q
                      have hvv : (charsD (ByteArray.mk #[]).data.toList).isSome = true := rfl
                      rw [hvv] at q; exact q)
                    refine HVL.out.mono ?_
                    rintro r w10 ⟨rfl, hb10⟩
                    have S10 := Lib.hid (S9.out.up hb10)
                    clear hb10 HVL S9
                    go_wp2_with fail
                    have HMM := Lib.hid (show lenR ⟨#[]⟩ = 0 by decide)
                    have HWT := Lib.hid (show T2.S.pt = ww by rw [HT2.out]; rw [takeT_pt, ← HP.out]; unfold delN; have := hpe.out; have := hn3000.out; have := HNn.out; have := HXY.out; have := HCS.out; have := HDD.out; (repeat' split) <;> omega)
                    have HLN := Lib.hid (show Calls Tryz.prog 14 #[.string (⟨#[]⟩ : ByteArray)] w10 fun e w' => e = .returned (.int .i64 0) ∧ Below w10.heap.size w10 w' from by
                      have q := rlen_any (⟨#[]⟩ : ByteArray) w10 (by first | (have := HTS.out; omega) | decide)
                      rw [HMM.out] at q; exact q)
                    refine HLN.out.mono ?_
                    rintro r w11 ⟨rfl, hb11⟩
                    have S11 := Lib.hid (S10.out.up hb11)
                    clear hb11 HLN S10
                    have sdd : IntKind.i64.wrap ((y : Int) - (x : Int)) = (dd : Int) := by rw [IntWalk.i64_in _ (by have := hpe.out; have := hn3000.out; have := HNn.out; have := HXY.out; omega)]; have := HDD.out; have := HXY.out; omega
                    have sww : IntKind.i64.wrap ((pt : Int) - (dd : Int)) = (ww : Int) := by rw [IntWalk.i64_in _ (by have := hpe.out; have := hn3000.out; have := HNn.out; have := HXY.out; have := HDD.out; omega)]; have := HDD.out; have := HCS.out; have := HXY.out; omega
                    have sw2 : IntKind.i64.wrap (ww : Int) = (ww : Int) := IntWalk.i64_in _ (by have := hpe.out; have := hn3000.out; have := HNn.out; have := HXY.out; have := HDD.out; omega)
                    have q1 : decide (((y : Nat) : Int) ≤ ((pt : Nat) : Int)) = true := decide_eq_true (by have := HCS.out; omega)
                    have q2 : (((y : Nat) : Int) ≤ ((pt : Nat) : Int)) = True := eq_true (by have := HCS.out; omega)
                    have q3 : (y ≤ pt) = True := eq_true (by have := HCS.out; omega)
                    have p1 : decide (((x : Nat) : Int) < ((ww : Nat) : Int)) = false := decide_eq_false (by have := HCS.out; omega)
                    have p2 : (((x : Nat) : Int) < ((ww : Nat) : Int)) = False := eq_false (by have := HCS.out; omega)
                    have p3 : (x < ww) = False := eq_false (by have := HCS.out; omega)
                    obtain ⟨al, hal⟩ : ∃ al, al = encS T2.cs := ⟨_, rfl⟩
                    have hcat : hd ++ (⟨#[]⟩ : ByteArray) ++ tl = al := by
                      rw [hal, HT2.out, Hhd.out, Htl.out, HNn.out.2, HNn.out.1]
                      exact (by have q := parts_take T (show 1 ≤ x by have := HXY.out; omega) (show x ≤ y by have := HXY.out; omega); rw [← q]; unfold head3 tail3 textV; rw [if_pos (reach_iff.2 (by rw [HW.out.2.1.lo, HW.out.2.1.hi]; have := hpe.out; have := HNn.out; have := HXY.out; have := HP.out; omega)), if_pos (reach_iff.2 (by rw [HW.out.2.1.lo, HW.out.2.1.hi]; have := hpe.out; have := HNn.out; have := HXY.out; have := HP.out; omega))]; rfl)
                    obtain ⟨h2, hh2⟩ : ∃ h2, hd ++ (⟨#[]⟩ : ByteArray) = h2 := ⟨_, rfl⟩
                    rw [hh2] at hcat
                    have hz1 : hd.size ≤ 20000 := by rw [Hhd.out]; exact textV_le hn3000.out _ _
                    have hz2 : tl.size ≤ 20000 := by rw [Htl.out]; exact textV_le hn3000.out _ _
                    have htz : ((⟨#[]⟩ : ByteArray) : ByteArray).size ≤ 60 := by first | exact HTS.out | decide
                    have hz3 : h2.size ≤ 20060 := by rw [← hh2, ByteArray.size_append]; omega
                    have hs1 : hd.size + ((⟨#[]⟩ : ByteArray) : ByteArray).size ≤ 9223372036854775807 := by omega
                    have hs2 : h2.size + tl.size ≤ 9223372036854775807 := by omega
                    have eal2 : (al.toList == al.toList) = true := by simp
                    have HAL := Lib.hid (show Calls Tryz.prog 9 #[pAt b] w11 fun r w' => r = .returned (.string al) ∧ Below w11.heap.size w11 w' from by
                      have q := pAll S11.out.pb
                      rw [← hal] at q; exact q)
                    clear hal hz1 hz2 hz3 htz est
                    go_wp2_with fail
                    refine HAL.out.mono ?_
                    rintro r w12 ⟨rfl, hb12⟩
                    have S12 := Lib.hid (S11.out.up hb12)
                    clear hb12 HAL S11
                    go_wp2_with fail
                    have hpo := bpoint S12.out.pb.r
                    rw [HWT.out] at hpo
                    refine hpo.mono ?_
                    rintro r w13 ⟨rfl, hw13⟩
                    have S13 := Lib.hid (hw13 ▸ S12.out)
                    clear hpo S12 hw13
                    go_wp2_with fail
                    go_roundw
                    case rel =>
                      refine ⟨i + 1, by have := HII.out; omega, by first | rfl | go_num, T2, _, ⟨S13.out, by have := HW.out.1; have := hn3000.out; have := HBB.out; omega, ?_, ?_⟩⟩
                      · rw [HT2.out]; exact HW.out.2.1.take (by have := HXY.out; omega) (by have := HXY.out; omega) (by have := HXY.out; have := HNn.out; omega)
                      · rw [HT2.out]; rw [takeT_cs, delC_len (by have := HXY.out; omega) (by have := HXY.out; omega) (by have := HXY.out; have := HNn.out; omega)]; have := HW.out.2.2; omega
                    case measure => have := HII.out; simp [int2]; omega
                case neg =>
                  by_cases hc2 : x < pt
                  case pos =>
                    have HCS := Lib.hid (⟨hc, hc2⟩ : _ ∧ _)
                    clear hc hc2
                    have hE1 : delE T 1 (x : Int) = 0 := by unfold delE; rw [if_pos (reach_iff.2 (by rw [HW.out.2.1.lo, HW.out.2.1.hi]; have := hpe.out; have := HNn.out; have := HXY.out; have := HP.out; omega))]
                    have hE2 : delE T (y : Int) (n1 : Int) = 0 := by unfold delE; rw [if_pos (reach_iff.2 (by rw [HW.out.2.1.lo, HW.out.2.1.hi]; have := hpe.out; have := HNn.out; have := HXY.out; have := HP.out; omega))]
                    have hEE : delE T (x : Int) (y : Int) = 0 := by unfold delE; rw [if_pos (reach_iff.2 (by rw [HW.out.2.1.lo, HW.out.2.1.hi]; have := hpe.out; have := HNn.out; have := HXY.out; have := HP.out; omega))]
                    have le1 : decide ((x : Int) ≤ (y : Int)) = true := decide_eq_true (by have := HXY.out; omega)
                    have le2 : ((x : Int) ≤ (y : Int)) = True := eq_true (by have := HXY.out; omega)
                    have le3 : (x ≤ y) = True := eq_true (by have := HXY.out; omega)
                    obtain ⟨hd, hhd⟩ : ∃ hd, hd = textV T 1 (x : Int) := ⟨_, rfl⟩
                    obtain ⟨tl, htl⟩ : ∃ tl, tl = textV T (y : Int) (n1 : Int) := ⟨_, rfl⟩
                    have HG1 := Lib.hid (show ∀ W, Below w5.heap.size w5 W → Calls Tryz.prog 11 #[pAt b, .int .i64 1, .int .i64 (x : Int)] W fun r w' => r = .returned (.tuple #[.string hd, .int .i64 0]) ∧ Below W.heap.size W w' from fun W hb => by
                      have q := pText (S5.out.pb.up hb) 1 (x : Int)
                      rw [hE1, ← hhd] at q; exact q)
                    have HG2 := Lib.hid (show ∀ W, Below w5.heap.size w5 W → Calls Tryz.prog 11 #[pAt b, .int .i64 (y : Int), .int .i64 (n1 : Int)] W fun r w' => r = .returned (.tuple #[.string tl, .int .i64 0]) ∧ Below W.heap.size W w' from fun W hb => by
                      have q := pText (S5.out.pb.up hb) (y : Int) (n1 : Int)
                      rw [hE2, ← htl] at q; exact q)
                    have HSZ := Lib.hid (show ∀ W, Below w5.heap.size w5 W → Calls Tryz.prog 12 #[pAt b] W fun r w' => r = .returned (.int .i64 (n : Int)) ∧ Below W.heap.size W w' from fun W hb => by
                      have q := bsize (S5.out.pb.up hb).r
                      rw [← HNn.out.1] at q; exact q)
                    have Hhd := Lib.hid hhd
                    have Htl := Lib.hid htl
                    obtain ⟨T2, hT2⟩ : ∃ T2 : Tx, T2 = takeT T x y := ⟨_, rfl⟩
                    obtain ⟨BB, hBB⟩ : ∃ BB : Nat, BB = B + T.cs.length + 4 := ⟨_, rfl⟩
                    have HBB := Lib.hid hBB
                    have HDO := Lib.hid (show ∀ W, St N w1 w1.heap.size b W T B → Calls Tryz.prog 13 #[pAt b, actV (⟨ek, (x : Int), (y : Int), eid, enm, etx, eon, eal, evk, evn, esA, esp, esc⟩ : AcE)] W (DoP N W b (fun k => w1.heap.size ≤ k) 0 T2 BB) from fun W hS => by
                      have q := do_del5 (e := (⟨ek, (x : Int), (y : Int), eid, enm, etx, eon, eal, evk, evn, esA, esp, esc⟩ : AcE)) (hS.tabs hN1.out (Nat.le_refl _) T1.out) (hS.rules hN1.out (Nat.le_refl _) R1.out) hS.pb (fun k hk => Nat.le_trans hN1.out hk) (by have := HW.out.1; have := HII.out.2; omega) HW.out.2.1.ro HTS.out (HK.out.symm)
                      rw [hEE] at q
                      first | rw [if_pos rfl] at q | rw [if_neg (by decide)] at q
                      try simp only [← HK.out] at q
                      try simp only [Int.toNat_natCast] at q
                      rw [← hBB, ← hT2] at q
                      exact q)
                    have HT2 := Lib.hid hT2
                    clear hhd htl hT2 hBB hE1 hE2 hEE
                    have a1 := (HC.out w5 S5.out.bl).c1
                    have a2 := (HC.out w5 S5.out.bl).c2
                    go_wp2_with fail
                    go_region
                    go_wp2_with fail
                    clear a1 a2
                    refine (HG1.out _ (Below.refl _ w5).drew).mono ?_
                    rintro r w6 ⟨rfl, hb6⟩
                    have B6 := Lib.hid (show Below w5.heap.size w5 w6 from ((Below.refl _ w5).drew).trans hb6)
                    clear hb6 HG1
                    go_wp2_with fail
                    refine (HSZ.out _ B6.out).mono ?_
                    rintro r w7 ⟨rfl, hb7⟩
                    have B7 := Lib.hid (up2 B6.out hb7)
                    clear hb7
                    go_wp2_with fail
                    refine (HG2.out _ B7.out).mono ?_
                    rintro r w8 ⟨rfl, hb8⟩
                    have B8 := Lib.hid (up2 B7.out hb8)
                    have S8 := Lib.hid (S5.out.up B8.out)
                    clear hb8 HG2
                    have aC := HC.out w8 S8.out.bl
                    have a0 := aC.c0
                    have a1 := aC.c1
                    have a2 := aC.c2
                    have a3 := aC.c3
                    have a4 := aC.c4
                    have a5 := aC.c5
                    have a6 := aC.c6
                    have a7 := aC.c7
                    have a8 := aC.c8
                    have a9 := aC.c9
                    have a10 := aC.c10
                    clear aC
                    simp only at a0 a1 a2 a3 a4 a5 a6 a7 a8 a9 a10
                    go_wp2_with fail
                    refine (HDO.out w8 S8.out).mono ?_
                    rintro r w9 ⟨rfl, ho9, hp9⟩
                    have S9 := Lib.hid (S8.out.next ⟨ho9, hp9⟩)
                    clear ho9 hp9 HDO a0 a1 a2 a3 a4 a5 a6 a7 a8 a9 a10
                    have a5 : w9.cell? ⟨g, o2 + i * 11 + 5, none⟩ = some (.string etx) := (HC.out w9 S9.out.bl).c5
                    go_wp2_with fail
                    have HVL := Lib.hid (show Calls Tryz.prog 7 #[.string (⟨#[]⟩ : ByteArray)] w9 fun e w' => e = .returned (.bool true) ∧ Below w9.heap.size w9 w' from by
                      have q := rvalid_any (⟨#[]⟩ : ByteArray) w9 (by first | (have := HTS.out; omega) | decide)
                      rw [vld_chars] at q
                      have hvv : (charsD (ByteArray.mk #[]).data.toList).isSome = true := rfl
                      rw [hvv] at q; exact q)
                    refine HVL.out.mono ?_
                    rintro r w10 ⟨rfl, hb10⟩
                    have S10 := Lib.hid (S9.out.up hb10)
                    clear hb10 HVL S9
                    go_wp2_with fail
                    have HMM := Lib.hid (show lenR ⟨#[]⟩ = 0 by decide)
                    have HWT := Lib.hid (show T2.S.pt = x by rw [HT2.out]; rw [takeT_pt, ← HP.out]; unfold delN; have := hpe.out; have := hn3000.out; have := HNn.out; have := HXY.out; have := HCS.out; (repeat' split) <;> omega)
                    have HLN := Lib.hid (show Calls Tryz.prog 14 #[.string (⟨#[]⟩ : ByteArray)] w10 fun e w' => e = .returned (.int .i64 0) ∧ Below w10.heap.size w10 w' from by
                      have q := rlen_any (⟨#[]⟩ : ByteArray) w10 (by first | (have := HTS.out; omega) | decide)
                      rw [HMM.out] at q; exact q)
                    refine HLN.out.mono ?_
                    rintro r w11 ⟨rfl, hb11⟩
                    have S11 := Lib.hid (S10.out.up hb11)
                    clear hb11 HLN S10
                    have q1 : decide (((y : Nat) : Int) ≤ ((pt : Nat) : Int)) = false := decide_eq_false (by have := HCS.out; omega)
                    have q2 : (((y : Nat) : Int) ≤ ((pt : Nat) : Int)) = False := eq_false (by have := HCS.out; omega)
                    have q3 : (y ≤ pt) = False := eq_false (by have := HCS.out; omega)
                    have p1 : decide (((x : Nat) : Int) < ((pt : Nat) : Int)) = true := decide_eq_true (by have := HCS.out; omega)
                    have p2 : (((x : Nat) : Int) < ((pt : Nat) : Int)) = True := eq_true (by have := HCS.out; omega)
                    have p3 : (x < pt) = True := eq_true (by have := HCS.out; omega)
                    obtain ⟨al, hal⟩ : ∃ al, al = encS T2.cs := ⟨_, rfl⟩
                    have hcat : hd ++ (⟨#[]⟩ : ByteArray) ++ tl = al := by
                      rw [hal, HT2.out, Hhd.out, Htl.out, HNn.out.2, HNn.out.1]
                      exact (by have q := parts_take T (show 1 ≤ x by have := HXY.out; omega) (show x ≤ y by have := HXY.out; omega); rw [← q]; unfold head3 tail3 textV; rw [if_pos (reach_iff.2 (by rw [HW.out.2.1.lo, HW.out.2.1.hi]; have := hpe.out; have := HNn.out; have := HXY.out; have := HP.out; omega)), if_pos (reach_iff.2 (by rw [HW.out.2.1.lo, HW.out.2.1.hi]; have := hpe.out; have := HNn.out; have := HXY.out; have := HP.out; omega))]; rfl)
                    obtain ⟨h2, hh2⟩ : ∃ h2, hd ++ (⟨#[]⟩ : ByteArray) = h2 := ⟨_, rfl⟩
                    rw [hh2] at hcat
                    have hz1 : hd.size ≤ 20000 := by rw [Hhd.out]; exact textV_le hn3000.out _ _
                    have hz2 : tl.size ≤ 20000 := by rw [Htl.out]; exact textV_le hn3000.out _ _
                    have htz : ((⟨#[]⟩ : ByteArray) : ByteArray).size ≤ 60 := by first | exact HTS.out | decide
                    have hz3 : h2.size ≤ 20060 := by rw [← hh2, ByteArray.size_append]; omega
                    have hs1 : hd.size + ((⟨#[]⟩ : ByteArray) : ByteArray).size ≤ 9223372036854775807 := by omega
                    have hs2 : h2.size + tl.size ≤ 9223372036854775807 := by omega
                    have eal2 : (al.toList == al.toList) = true := by simp
                    have HAL := Lib.hid (show Calls Tryz.prog 9 #[pAt b] w11 fun r w' => r = .returned (.string al) ∧ Below w11.heap.size w11 w' from by
                      have q := pAll S11.out.pb
                      rw [← hal] at q; exact q)
                    clear hal hz1 hz2 hz3 htz est
                    go_wp2_with fail
                    refine HAL.out.mono ?_
                    rintro r w12 ⟨rfl, hb12⟩
                    have S12 := Lib.hid (S11.out.up hb12)
                    clear hb12 HAL S11
                    go_wp2_with fail
                    have hpo := bpoint S12.out.pb.r
                    rw [HWT.out] at hpo
                    refine hpo.mono ?_
                    rintro r w13 ⟨rfl, hw13⟩
                    have S13 := Lib.hid (hw13 ▸ S12.out)
                    clear hpo S12 hw13
                    go_wp2_with fail
                    go_roundw
                    case rel =>
                      refine ⟨i + 1, by have := HII.out; omega, by first | rfl | go_num, T2, _, ⟨S13.out, by have := HW.out.1; have := hn3000.out; have := HBB.out; omega, ?_, ?_⟩⟩
                      · rw [HT2.out]; exact HW.out.2.1.take (by have := HXY.out; omega) (by have := HXY.out; omega) (by have := HXY.out; have := HNn.out; omega)
                      · rw [HT2.out]; rw [takeT_cs, delC_len (by have := HXY.out; omega) (by have := HXY.out; omega) (by have := HXY.out; have := HNn.out; omega)]; have := HW.out.2.2; omega
                    case measure => have := HII.out; simp [int2]; omega
                  case neg =>
                    have HCS := Lib.hid (⟨hc, hc2⟩ : _ ∧ _)
                    clear hc hc2
                    have hE1 : delE T 1 (x : Int) = 0 := by unfold delE; rw [if_pos (reach_iff.2 (by rw [HW.out.2.1.lo, HW.out.2.1.hi]; have := hpe.out; have := HNn.out; have := HXY.out; have := HP.out; omega))]
                    have hE2 : delE T (y : Int) (n1 : Int) = 0 := by unfold delE; rw [if_pos (reach_iff.2 (by rw [HW.out.2.1.lo, HW.out.2.1.hi]; have := hpe.out; have := HNn.out; have := HXY.out; have := HP.out; omega))]
                    have hEE : delE T (x : Int) (y : Int) = 0 := by unfold delE; rw [if_pos (reach_iff.2 (by rw [HW.out.2.1.lo, HW.out.2.1.hi]; have := hpe.out; have := HNn.out; have := HXY.out; have := HP.out; omega))]
                    have le1 : decide ((x : Int) ≤ (y : Int)) = true := decide_eq_true (by have := HXY.out; omega)
                    have le2 : ((x : Int) ≤ (y : Int)) = True := eq_true (by have := HXY.out; omega)
                    have le3 : (x ≤ y) = True := eq_true (by have := HXY.out; omega)
                    obtain ⟨hd, hhd⟩ : ∃ hd, hd = textV T 1 (x : Int) := ⟨_, rfl⟩
                    obtain ⟨tl, htl⟩ : ∃ tl, tl = textV T (y : Int) (n1 : Int) := ⟨_, rfl⟩
                    have HG1 := Lib.hid (show ∀ W, Below w5.heap.size w5 W → Calls Tryz.prog 11 #[pAt b, .int .i64 1, .int .i64 (x : Int)] W fun r w' => r = .returned (.tuple #[.string hd, .int .i64 0]) ∧ Below W.heap.size W w' from fun W hb => by
                      have q := pText (S5.out.pb.up hb) 1 (x : Int)
                      rw [hE1, ← hhd] at q; exact q)
                    have HG2 := Lib.hid (show ∀ W, Below w5.heap.size w5 W → Calls Tryz.prog 11 #[pAt b, .int .i64 (y : Int), .int .i64 (n1 : Int)] W fun r w' => r = .returned (.tuple #[.string tl, .int .i64 0]) ∧ Below W.heap.size W w' from fun W hb => by
                      have q := pText (S5.out.pb.up hb) (y : Int) (n1 : Int)
                      rw [hE2, ← htl] at q; exact q)
                    have HSZ := Lib.hid (show ∀ W, Below w5.heap.size w5 W → Calls Tryz.prog 12 #[pAt b] W fun r w' => r = .returned (.int .i64 (n : Int)) ∧ Below W.heap.size W w' from fun W hb => by
                      have q := bsize (S5.out.pb.up hb).r
                      rw [← HNn.out.1] at q; exact q)
                    have Hhd := Lib.hid hhd
                    have Htl := Lib.hid htl
                    obtain ⟨T2, hT2⟩ : ∃ T2 : Tx, T2 = takeT T x y := ⟨_, rfl⟩
                    obtain ⟨BB, hBB⟩ : ∃ BB : Nat, BB = B + T.cs.length + 4 := ⟨_, rfl⟩
                    have HBB := Lib.hid hBB
                    have HDO := Lib.hid (show ∀ W, St N w1 w1.heap.size b W T B → Calls Tryz.prog 13 #[pAt b, actV (⟨ek, (x : Int), (y : Int), eid, enm, etx, eon, eal, evk, evn, esA, esp, esc⟩ : AcE)] W (DoP N W b (fun k => w1.heap.size ≤ k) 0 T2 BB) from fun W hS => by
                      have q := do_del5 (e := (⟨ek, (x : Int), (y : Int), eid, enm, etx, eon, eal, evk, evn, esA, esp, esc⟩ : AcE)) (hS.tabs hN1.out (Nat.le_refl _) T1.out) (hS.rules hN1.out (Nat.le_refl _) R1.out) hS.pb (fun k hk => Nat.le_trans hN1.out hk) (by have := HW.out.1; have := HII.out.2; omega) HW.out.2.1.ro HTS.out (HK.out.symm)
                      rw [hEE] at q
                      first | rw [if_pos rfl] at q | rw [if_neg (by decide)] at q
                      try simp only [← HK.out] at q
                      try simp only [Int.toNat_natCast] at q
                      rw [← hBB, ← hT2] at q
                      exact q)
                    have HT2 := Lib.hid hT2
                    clear hhd htl hT2 hBB hE1 hE2 hEE
                    have a1 := (HC.out w5 S5.out.bl).c1
                    have a2 := (HC.out w5 S5.out.bl).c2
                    go_wp2_with fail
                    go_region
                    go_wp2_with fail
                    clear a1 a2
                    refine (HG1.out _ (Below.refl _ w5).drew).mono ?_
                    rintro r w6 ⟨rfl, hb6⟩
                    have B6 := Lib.hid (show Below w5.heap.size w5 w6 from ((Below.refl _ w5).drew).trans hb6)
                    clear hb6 HG1
                    go_wp2_with fail
                    refine (HSZ.out _ B6.out).mono ?_
                    rintro r w7 ⟨rfl, hb7⟩
                    have B7 := Lib.hid (up2 B6.out hb7)
                    clear hb7
                    go_wp2_with fail
                    refine (HG2.out _ B7.out).mono ?_
                    rintro r w8 ⟨rfl, hb8⟩
                    have B8 := Lib.hid (up2 B7.out hb8)
                    have S8 := Lib.hid (S5.out.up B8.out)
                    clear hb8 HG2
                    have aC := HC.out w8 S8.out.bl
                    have a0 := aC.c0
                    have a1 := aC.c1
                    have a2 := aC.c2
                    have a3 := aC.c3
                    have a4 := aC.c4
                    have a5 := aC.c5
                    have a6 := aC.c6
                    have a7 := aC.c7
                    have a8 := aC.c8
                    have a9 := aC.c9
                    have a10 := aC.c10
                    clear aC
                    simp only at a0 a1 a2 a3 a4 a5 a6 a7 a8 a9 a10
                    go_wp2_with fail
                    refine (HDO.out w8 S8.out).mono ?_
                    rintro r w9 ⟨rfl, ho9, hp9⟩
                    have S9 := Lib.hid (S8.out.next ⟨ho9, hp9⟩)
                    clear ho9 hp9 HDO a0 a1 a2 a3 a4 a5 a6 a7 a8 a9 a10
                    have a5 : w9.cell? ⟨g, o2 + i * 11 + 5, none⟩ = some (.string etx) := (HC.out w9 S9.out.bl).c5
                    go_wp2_with fail
                    have HVL := Lib.hid (show Calls Tryz.prog 7 #[.string (⟨#[]⟩ : ByteArray)] w9 fun e w' => e = .returned (.bool true) ∧ Below w9.heap.size w9 w' from by
                      have q := rvalid_any (⟨#[]⟩ : ByteArray) w9 (by first | (have := HTS.out; omega) | decide)
                      rw [vld_chars] at q
                      have hvv : (charsD (ByteArray.mk #[]).data.toList).isSome = true := rfl
                      rw [hvv] at q; exact q)
                    refine HVL.out.mono ?_
                    rintro r w10 ⟨rfl, hb10⟩
                    have S10 := Lib.hid (S9.out.up hb10)
                    clear hb10 HVL S9
                    go_wp2_with fail
                    have HMM := Lib.hid (show lenR ⟨#[]⟩ = 0 by decide)
                    have HWT := Lib.hid (show T2.S.pt = pt by rw [HT2.out]; rw [takeT_pt, ← HP.out]; unfold delN; have := hpe.out; have := hn3000.out; have := HNn.out; have := HXY.out; have := HCS.out; (repeat' split) <;> omega)
                    have HLN := Lib.hid (show Calls Tryz.prog 14 #[.string (⟨#[]⟩ : ByteArray)] w10 fun e w' => e = .returned (.int .i64 0) ∧ Below w10.heap.size w10 w' from by
                      have q := rlen_any (⟨#[]⟩ : ByteArray) w10 (by first | (have := HTS.out; omega) | decide)
                      rw [HMM.out] at q; exact q)
                    refine HLN.out.mono ?_
                    rintro r w11 ⟨rfl, hb11⟩
                    have S11 := Lib.hid (S10.out.up hb11)
                    clear hb11 HLN S10
                    have q1 : decide (((y : Nat) : Int) ≤ ((pt : Nat) : Int)) = false := decide_eq_false (by have := HCS.out; omega)
                    have q2 : (((y : Nat) : Int) ≤ ((pt : Nat) : Int)) = False := eq_false (by have := HCS.out; omega)
                    have q3 : (y ≤ pt) = False := eq_false (by have := HCS.out; omega)
                    have p1 : decide (((x : Nat) : Int) < ((pt : Nat) : Int)) = false := decide_eq_false (by have := HCS.out; omega)
                    have p2 : (((x : Nat) : Int) < ((pt : Nat) : Int)) = False := eq_false (by have := HCS.out; omega)
                    have p3 : (x < pt) = False := eq_false (by have := HCS.out; omega)
                    obtain ⟨al, hal⟩ : ∃ al, al = encS T2.cs := ⟨_, rfl⟩
                    have hcat : hd ++ (⟨#[]⟩ : ByteArray) ++ tl = al := by
                      rw [hal, HT2.out, Hhd.out, Htl.out, HNn.out.2, HNn.out.1]
                      exact (by have q := parts_take T (show 1 ≤ x by have := HXY.out; omega) (show x ≤ y by have := HXY.out; omega); rw [← q]; unfold head3 tail3 textV; rw [if_pos (reach_iff.2 (by rw [HW.out.2.1.lo, HW.out.2.1.hi]; have := hpe.out; have := HNn.out; have := HXY.out; have := HP.out; omega)), if_pos (reach_iff.2 (by rw [HW.out.2.1.lo, HW.out.2.1.hi]; have := hpe.out; have := HNn.out; have := HXY.out; have := HP.out; omega))]; rfl)
                    obtain ⟨h2, hh2⟩ : ∃ h2, hd ++ (⟨#[]⟩ : ByteArray) = h2 := ⟨_, rfl⟩
                    rw [hh2] at hcat
                    have hz1 : hd.size ≤ 20000 := by rw [Hhd.out]; exact textV_le hn3000.out _ _
                    have hz2 : tl.size ≤ 20000 := by rw [Htl.out]; exact textV_le hn3000.out _ _
                    have htz : ((⟨#[]⟩ : ByteArray) : ByteArray).size ≤ 60 := by first | exact HTS.out | decide
                    have hz3 : h2.size ≤ 20060 := by rw [← hh2, ByteArray.size_append]; omega
                    have hs1 : hd.size + ((⟨#[]⟩ : ByteArray) : ByteArray).size ≤ 9223372036854775807 := by omega
                    have hs2 : h2.size + tl.size ≤ 9223372036854775807 := by omega
                    have eal2 : (al.toList == al.toList) = true := by simp
                    have HAL := Lib.hid (show Calls Tryz.prog 9 #[pAt b] w11 fun r w' => r = .returned (.string al) ∧ Below w11.heap.size w11 w' from by
                      have q := pAll S11.out.pb
                      rw [← hal] at q; exact q)
                    clear hal hz1 hz2 hz3 htz est
                    go_wp2_with fail
                    refine HAL.out.mono ?_
                    rintro r w12 ⟨rfl, hb12⟩
                    have S12 := Lib.hid (S11.out.up hb12)
                    clear hb12 HAL S11
                    go_wp2_with fail
                    have hpo := bpoint S12.out.pb.r
                    rw [HWT.out] at hpo
                    refine hpo.mono ?_
                    rintro r w13 ⟨rfl, hw13⟩
                    have S13 := Lib.hid (hw13 ▸ S12.out)
                    clear hpo S12 hw13
                    go_wp2_with fail
                    go_roundw
                    case rel =>
                      refine ⟨i + 1, by have := HII.out; omega, by first | rfl | go_num, T2, _, ⟨S13.out, by have := HW.out.1; have := hn3000.out; have := HBB.out; omega, ?_, ?_⟩⟩
                      · rw [HT2.out]; exact HW.out.2.1.take (by have := HXY.out; omega) (by have := HXY.out; omega) (by have := HXY.out; have := HNn.out; omega)
                      · rw [HT2.out]; rw [takeT_cs, delC_len (by have := HXY.out; omega) (by have := HXY.out; omega) (by have := HXY.out; have := HNn.out; omega)]; have := HW.out.2.2; omega
                    case measure => have := HII.out; simp [int2]; omega
    · as_aux_lemma =>
        by_cases hq : 1 ≤ ea ∧ ea ≤ (n : Int) + 1
        case neg =>
          have HXY := Lib.hid hq
          clear hq
          have hE1 : delE T 1 ea = 3 := by unfold delE; rw [if_neg (fun q => by have q := reach_iff.1 q; rw [HW.out.2.1.lo, HW.out.2.1.hi] at q; have := HNn.out; have := HXY.out; omega)]
          obtain ⟨v2, hE2⟩ : ∃ v2, delE T eb (n1 : Int) = v2 := ⟨_, rfl⟩
          have hEE : repE T ea eb etx = 3 := by unfold repE; rw [if_neg (fun q => by have q := reach_iff.1 q; rw [HW.out.2.1.lo, HW.out.2.1.hi] at q; have := HNn.out; have := HXY.out; omega)]
          obtain ⟨hd, hhd⟩ : ∃ hd, hd = textV T 1 ea := ⟨_, rfl⟩
          obtain ⟨tl, htl⟩ : ∃ tl, tl = textV T eb (n1 : Int) := ⟨_, rfl⟩
          have HG1 := Lib.hid (show ∀ W, Below w5.heap.size w5 W → Calls Tryz.prog 11 #[pAt b, .int .i64 1, .int .i64 ea] W fun r w' => r = .returned (.tuple #[.string hd, .int .i64 3]) ∧ Below W.heap.size W w' from fun W hb => by
            have q := pText (S5.out.pb.up hb) 1 ea
            rw [hE1, ← hhd] at q; exact q)
          have HG2 := Lib.hid (show ∀ W, Below w5.heap.size w5 W → Calls Tryz.prog 11 #[pAt b, .int .i64 eb, .int .i64 (n1 : Int)] W fun r w' => r = .returned (.tuple #[.string tl, .int .i64 v2]) ∧ Below W.heap.size W w' from fun W hb => by
            have q := pText (S5.out.pb.up hb) eb (n1 : Int)
            rw [hE2, ← htl] at q; exact q)
          have HSZ := Lib.hid (show ∀ W, Below w5.heap.size w5 W → Calls Tryz.prog 12 #[pAt b] W fun r w' => r = .returned (.int .i64 (n : Int)) ∧ Below W.heap.size W w' from fun W hb => by
            have q := bsize (S5.out.pb.up hb).r
            rw [← HNn.out.1] at q; exact q)
          have Hhd := Lib.hid hhd
          have Htl := Lib.hid htl
          obtain ⟨T2, hT2⟩ : ∃ T2 : Tx, T2 = T := ⟨_, rfl⟩
          obtain ⟨BB, hBB⟩ : ∃ BB : Nat, BB = B + T.cs.length + 8 := ⟨_, rfl⟩
          have HBB := Lib.hid hBB
          have HDO := Lib.hid (show ∀ W, St N w1 w1.heap.size b W T B → Calls Tryz.prog 13 #[pAt b, actV (⟨ek, ea, eb, eid, enm, etx, eon, eal, evk, evn, esA, esp, esc⟩ : AcE)] W (DoP N W b (fun k => w1.heap.size ≤ k) 3 T2 BB) from fun W hS => by
            have q := do_rep6 (e := (⟨ek, ea, eb, eid, enm, etx, eon, eal, evk, evn, esA, esp, esc⟩ : AcE)) (hS.tabs hN1.out (Nat.le_refl _) T1.out) (hS.rules hN1.out (Nat.le_refl _) R1.out) hS.pb (fun k hk => Nat.le_trans hN1.out hk) (by have := HW.out.1; have := HII.out.2; omega) HW.out.2.1.ro HTS.out (HK.out.symm)
            rw [hEE] at q
            first | rw [if_pos rfl] at q | rw [if_neg (by decide)] at q
            try simp only [← HK.out] at q
            try simp only [Int.toNat_natCast] at q
            rw [← hBB, ← hT2] at q
            exact q)
          have HT2 := Lib.hid hT2
          clear hhd htl hT2 hBB hE1 hE2 hEE
          have a1 := (HC.out w5 S5.out.bl).c1
          have a2 := (HC.out w5 S5.out.bl).c2
          go_wp2_with fail
          go_region
          go_wp2_with fail
          clear a1 a2
          refine (HG1.out _ (Below.refl _ w5).drew).mono ?_
          rintro r w6 ⟨rfl, hb6⟩
          have B6 := Lib.hid (show Below w5.heap.size w5 w6 from ((Below.refl _ w5).drew).trans hb6)
          clear hb6 HG1
          go_wp2_with fail
          refine (HSZ.out _ B6.out).mono ?_
          rintro r w7 ⟨rfl, hb7⟩
          have B7 := Lib.hid (up2 B6.out hb7)
          clear hb7
          go_wp2_with fail
          refine (HG2.out _ B7.out).mono ?_
          rintro r w8 ⟨rfl, hb8⟩
          have B8 := Lib.hid (up2 B7.out hb8)
          have S8 := Lib.hid (S5.out.up B8.out)
          clear hb8 HG2
          have aC := HC.out w8 S8.out.bl
          have a0 := aC.c0
          have a1 := aC.c1
          have a2 := aC.c2
          have a3 := aC.c3
          have a4 := aC.c4
          have a5 := aC.c5
          have a6 := aC.c6
          have a7 := aC.c7
          have a8 := aC.c8
          have a9 := aC.c9
          have a10 := aC.c10
          clear aC
          simp only at a0 a1 a2 a3 a4 a5 a6 a7 a8 a9 a10
          go_wp2_with fail
          refine (HDO.out w8 S8.out).mono ?_
          rintro r w9 ⟨rfl, ho9, hp9⟩
          have S9 := Lib.hid (S8.out.next ⟨ho9, hp9⟩)
          clear ho9 hp9 HDO a0 a1 a2 a3 a4 a5 a6 a7 a8 a9 a10
          have a5 : w9.cell? ⟨g, o2 + i * 11 + 5, none⟩ = some (.string etx) := (HC.out w9 S9.out.bl).c5
          go_wp2_with fail
          have S10 := Lib.hid S9.out
          clear S9
          rw [HT2.out] at S10
          have hal := pAll S10.out.pb
          rw [← HST.out] at hal
          refine hal.mono ?_
          rintro r w11 ⟨rfl, hb11⟩
          have S11 := Lib.hid (S10.out.up hb11)
          clear hb11 hal S10
          go_wp2_with fail
          have hpo := bpoint S11.out.pb.r
          rw [← HP.out] at hpo
          refine hpo.mono ?_
          rintro r w12 ⟨rfl, hw12⟩
          have S12 := Lib.hid (hw12 ▸ S11.out)
          clear hpo S11 hw12
          go_wp2_with fail
          go_roundw
          case rel => exact ⟨i + 1, by have := HII.out; omega, by first | rfl | go_num, T, _, ⟨S12.out, by have := HW.out.1; have := hn3000.out; have := HBB.out; omega, HW.out.2.1, by have := HW.out.2.2; omega⟩⟩
          case measure => have := HII.out; simp [int2]; omega
        case pos =>
          by_cases hq2 : 1 ≤ eb ∧ eb ≤ (n : Int) + 1
          case neg =>
            have HXY := Lib.hid (⟨hq, hq2⟩ : _ ∧ _)
            clear hq hq2
            have hE1 : delE T 1 ea = 0 := by unfold delE; rw [if_pos (reach_iff.2 (by rw [HW.out.2.1.lo, HW.out.2.1.hi]; have := hpe.out; have := HNn.out; have := HXY.out; have := HP.out; omega))]
            have hE2 : delE T eb (n1 : Int) = 3 := by unfold delE; rw [if_neg (fun q => by have q := reach_iff.1 q; rw [HW.out.2.1.lo, HW.out.2.1.hi] at q; have := HNn.out; have := HXY.out; omega)]
            have hEE : repE T ea eb etx = 3 := by unfold repE; rw [if_neg (fun q => by have q := reach_iff.1 q; rw [HW.out.2.1.lo, HW.out.2.1.hi] at q; have := HNn.out; have := HXY.out; omega)]
            obtain ⟨hd, hhd⟩ : ∃ hd, hd = textV T 1 ea := ⟨_, rfl⟩
            obtain ⟨tl, htl⟩ : ∃ tl, tl = textV T eb (n1 : Int) := ⟨_, rfl⟩
            have HG1 := Lib.hid (show ∀ W, Below w5.heap.size w5 W → Calls Tryz.prog 11 #[pAt b, .int .i64 1, .int .i64 ea] W fun r w' => r = .returned (.tuple #[.string hd, .int .i64 0]) ∧ Below W.heap.size W w' from fun W hb => by
              have q := pText (S5.out.pb.up hb) 1 ea
              rw [hE1, ← hhd] at q; exact q)
            have HG2 := Lib.hid (show ∀ W, Below w5.heap.size w5 W → Calls Tryz.prog 11 #[pAt b, .int .i64 eb, .int .i64 (n1 : Int)] W fun r w' => r = .returned (.tuple #[.string tl, .int .i64 3]) ∧ Below W.heap.size W w' from fun W hb => by
              have q := pText (S5.out.pb.up hb) eb (n1 : Int)
              rw [hE2, ← htl] at q; exact q)
            have HSZ := Lib.hid (show ∀ W, Below w5.heap.size w5 W → Calls Tryz.prog 12 #[pAt b] W fun r w' => r = .returned (.int .i64 (n : Int)) ∧ Below W.heap.size W w' from fun W hb => by
              have q := bsize (S5.out.pb.up hb).r
              rw [← HNn.out.1] at q; exact q)
            have Hhd := Lib.hid hhd
            have Htl := Lib.hid htl
            obtain ⟨T2, hT2⟩ : ∃ T2 : Tx, T2 = T := ⟨_, rfl⟩
            obtain ⟨BB, hBB⟩ : ∃ BB : Nat, BB = B + T.cs.length + 8 := ⟨_, rfl⟩
            have HBB := Lib.hid hBB
            have HDO := Lib.hid (show ∀ W, St N w1 w1.heap.size b W T B → Calls Tryz.prog 13 #[pAt b, actV (⟨ek, ea, eb, eid, enm, etx, eon, eal, evk, evn, esA, esp, esc⟩ : AcE)] W (DoP N W b (fun k => w1.heap.size ≤ k) 3 T2 BB) from fun W hS => by
              have q := do_rep6 (e := (⟨ek, ea, eb, eid, enm, etx, eon, eal, evk, evn, esA, esp, esc⟩ : AcE)) (hS.tabs hN1.out (Nat.le_refl _) T1.out) (hS.rules hN1.out (Nat.le_refl _) R1.out) hS.pb (fun k hk => Nat.le_trans hN1.out hk) (by have := HW.out.1; have := HII.out.2; omega) HW.out.2.1.ro HTS.out (HK.out.symm)
              rw [hEE] at q
              first | rw [if_pos rfl] at q | rw [if_neg (by decide)] at q
              try simp only [← HK.out] at q
              try simp only [Int.toNat_natCast] at q
              rw [← hBB, ← hT2] at q
              exact q)
            have HT2 := Lib.hid hT2
            clear hhd htl hT2 hBB hE1 hE2 hEE
            have a1 := (HC.out w5 S5.out.bl).c1
            have a2 := (HC.out w5 S5.out.bl).c2
            go_wp2_with fail
            go_region
            go_wp2_with fail
            clear a1 a2
            refine (HG1.out _ (Below.refl _ w5).drew).mono ?_
            rintro r w6 ⟨rfl, hb6⟩
            have B6 := Lib.hid (show Below w5.heap.size w5 w6 from ((Below.refl _ w5).drew).trans hb6)
            clear hb6 HG1
            go_wp2_with fail
            refine (HSZ.out _ B6.out).mono ?_
            rintro r w7 ⟨rfl, hb7⟩
            have B7 := Lib.hid (up2 B6.out hb7)
            clear hb7
            go_wp2_with fail
            refine (HG2.out _ B7.out).mono ?_
            rintro r w8 ⟨rfl, hb8⟩
            have B8 := Lib.hid (up2 B7.out hb8)
            have S8 := Lib.hid (S5.out.up B8.out)
            clear hb8 HG2
            have aC := HC.out w8 S8.out.bl
            have a0 := aC.c0
            have a1 := aC.c1
            have a2 := aC.c2
            have a3 := aC.c3
            have a4 := aC.c4
            have a5 := aC.c5
            have a6 := aC.c6
            have a7 := aC.c7
            have a8 := aC.c8
            have a9 := aC.c9
            have a10 := aC.c10
            clear aC
            simp only at a0 a1 a2 a3 a4 a5 a6 a7 a8 a9 a10
            go_wp2_with fail
            refine (HDO.out w8 S8.out).mono ?_
            rintro r w9 ⟨rfl, ho9, hp9⟩
            have S9 := Lib.hid (S8.out.next ⟨ho9, hp9⟩)
            clear ho9 hp9 HDO a0 a1 a2 a3 a4 a5 a6 a7 a8 a9 a10
            have a5 : w9.cell? ⟨g, o2 + i * 11 + 5, none⟩ = some (.string etx) := (HC.out w9 S9.out.bl).c5
            go_wp2_with fail
            have S10 := Lib.hid S9.out
            clear S9
            rw [HT2.out] at S10
            have hal := pAll S10.out.pb
            rw [← HST.out] at hal
            refine hal.mono ?_
            rintro r w11 ⟨rfl, hb11⟩
            have S11 := Lib.hid (S10.out.up hb11)
            clear hb11 hal S10
            go_wp2_with fail
            have hpo := bpoint S11.out.pb.r
            rw [← HP.out] at hpo
            refine hpo.mono ?_
            rintro r w12 ⟨rfl, hw12⟩
            have S12 := Lib.hid (hw12 ▸ S11.out)
            clear hpo S11 hw12
            go_wp2_with fail
            go_roundw
            case rel => exact ⟨i + 1, by have := HII.out; omega, by first | rfl | go_num, T, _, ⟨S12.out, by have := HW.out.1; have := hn3000.out; have := HBB.out; omega, HW.out.2.1, by have := HW.out.2.2; omega⟩⟩
            case measure => have := HII.out; simp [int2]; omega
          case pos =>
            by_cases hq3 : ea ≤ eb
            case neg =>
              have HXY := Lib.hid (⟨hq, hq2, hq3⟩ : _ ∧ _ ∧ _)
              clear hq hq2 hq3
              have hE1 : delE T 1 ea = 0 := by unfold delE; rw [if_pos (reach_iff.2 (by rw [HW.out.2.1.lo, HW.out.2.1.hi]; have := hpe.out; have := HNn.out; have := HXY.out; have := HP.out; omega))]
              have hE2 : delE T eb (n1 : Int) = 0 := by unfold delE; rw [if_pos (reach_iff.2 (by rw [HW.out.2.1.lo, HW.out.2.1.hi]; have := hpe.out; have := HNn.out; have := HXY.out; have := HP.out; omega))]
              have hEE : repE T ea eb etx = 3 := by unfold repE; rw [if_neg (fun q => by have q := reach_iff.1 q; rw [HW.out.2.1.lo, HW.out.2.1.hi] at q; have := HNn.out; have := HXY.out; omega)]
              have le1 : decide (ea ≤ eb) = false := decide_eq_false (by have := HXY.out; omega)
              have le2 : (ea ≤ eb) = False := eq_false (by have := HXY.out; omega)
              obtain ⟨hd, hhd⟩ : ∃ hd, hd = textV T 1 ea := ⟨_, rfl⟩
              obtain ⟨tl, htl⟩ : ∃ tl, tl = textV T eb (n1 : Int) := ⟨_, rfl⟩
              have HG1 := Lib.hid (show ∀ W, Below w5.heap.size w5 W → Calls Tryz.prog 11 #[pAt b, .int .i64 1, .int .i64 ea] W fun r w' => r = .returned (.tuple #[.string hd, .int .i64 0]) ∧ Below W.heap.size W w' from fun W hb => by
                have q := pText (S5.out.pb.up hb) 1 ea
                rw [hE1, ← hhd] at q; exact q)
              have HG2 := Lib.hid (show ∀ W, Below w5.heap.size w5 W → Calls Tryz.prog 11 #[pAt b, .int .i64 eb, .int .i64 (n1 : Int)] W fun r w' => r = .returned (.tuple #[.string tl, .int .i64 0]) ∧ Below W.heap.size W w' from fun W hb => by
                have q := pText (S5.out.pb.up hb) eb (n1 : Int)
                rw [hE2, ← htl] at q; exact q)
              have HSZ := Lib.hid (show ∀ W, Below w5.heap.size w5 W → Calls Tryz.prog 12 #[pAt b] W fun r w' => r = .returned (.int .i64 (n : Int)) ∧ Below W.heap.size W w' from fun W hb => by
                have q := bsize (S5.out.pb.up hb).r
                rw [← HNn.out.1] at q; exact q)
              have Hhd := Lib.hid hhd
              have Htl := Lib.hid htl
              obtain ⟨T2, hT2⟩ : ∃ T2 : Tx, T2 = T := ⟨_, rfl⟩
              obtain ⟨BB, hBB⟩ : ∃ BB : Nat, BB = B + T.cs.length + 8 := ⟨_, rfl⟩
              have HBB := Lib.hid hBB
              have HDO := Lib.hid (show ∀ W, St N w1 w1.heap.size b W T B → Calls Tryz.prog 13 #[pAt b, actV (⟨ek, ea, eb, eid, enm, etx, eon, eal, evk, evn, esA, esp, esc⟩ : AcE)] W (DoP N W b (fun k => w1.heap.size ≤ k) 3 T2 BB) from fun W hS => by
                have q := do_rep6 (e := (⟨ek, ea, eb, eid, enm, etx, eon, eal, evk, evn, esA, esp, esc⟩ : AcE)) (hS.tabs hN1.out (Nat.le_refl _) T1.out) (hS.rules hN1.out (Nat.le_refl _) R1.out) hS.pb (fun k hk => Nat.le_trans hN1.out hk) (by have := HW.out.1; have := HII.out.2; omega) HW.out.2.1.ro HTS.out (HK.out.symm)
                rw [hEE] at q
                first | rw [if_pos rfl] at q | rw [if_neg (by decide)] at q
                try simp only [← HK.out] at q
                try simp only [Int.toNat_natCast] at q
                rw [← hBB, ← hT2] at q
                exact q)
              have HT2 := Lib.hid hT2
              clear hhd htl hT2 hBB hE1 hE2 hEE
              have a1 := (HC.out w5 S5.out.bl).c1
              have a2 := (HC.out w5 S5.out.bl).c2
              go_wp2_with fail
              go_region
              go_wp2_with fail
              clear a1 a2
              refine (HG1.out _ (Below.refl _ w5).drew).mono ?_
              rintro r w6 ⟨rfl, hb6⟩
              have B6 := Lib.hid (show Below w5.heap.size w5 w6 from ((Below.refl _ w5).drew).trans hb6)
              clear hb6 HG1
              go_wp2_with fail
              refine (HSZ.out _ B6.out).mono ?_
              rintro r w7 ⟨rfl, hb7⟩
              have B7 := Lib.hid (up2 B6.out hb7)
              clear hb7
              go_wp2_with fail
              refine (HG2.out _ B7.out).mono ?_
              rintro r w8 ⟨rfl, hb8⟩
              have B8 := Lib.hid (up2 B7.out hb8)
              have S8 := Lib.hid (S5.out.up B8.out)
              clear hb8 HG2
              have aC := HC.out w8 S8.out.bl
              have a0 := aC.c0
              have a1 := aC.c1
              have a2 := aC.c2
              have a3 := aC.c3
              have a4 := aC.c4
              have a5 := aC.c5
              have a6 := aC.c6
              have a7 := aC.c7
              have a8 := aC.c8
              have a9 := aC.c9
              have a10 := aC.c10
              clear aC
              simp only at a0 a1 a2 a3 a4 a5 a6 a7 a8 a9 a10
              go_wp2_with fail
              refine (HDO.out w8 S8.out).mono ?_
              rintro r w9 ⟨rfl, ho9, hp9⟩
              have S9 := Lib.hid (S8.out.next ⟨ho9, hp9⟩)
              clear ho9 hp9 HDO a0 a1 a2 a3 a4 a5 a6 a7 a8 a9 a10
              have a5 : w9.cell? ⟨g, o2 + i * 11 + 5, none⟩ = some (.string etx) := (HC.out w9 S9.out.bl).c5
              go_wp2_with fail
              have S10 := Lib.hid S9.out
              clear S9
              rw [HT2.out] at S10
              have hal := pAll S10.out.pb
              rw [← HST.out] at hal
              refine hal.mono ?_
              rintro r w11 ⟨rfl, hb11⟩
              have S11 := Lib.hid (S10.out.up hb11)
              clear hb11 hal S10
              go_wp2_with fail
              have hpo := bpoint S11.out.pb.r
              rw [← HP.out] at hpo
              refine hpo.mono ?_
              rintro r w12 ⟨rfl, hw12⟩
              have S12 := Lib.hid (hw12 ▸ S11.out)
              clear hpo S11 hw12
              go_wp2_with fail
              go_roundw
              case rel => exact ⟨i + 1, by have := HII.out; omega, by first | rfl | go_num, T, _, ⟨S12.out, by have := HW.out.1; have := hn3000.out; have := HBB.out; omega, HW.out.2.1, by have := HW.out.2.2; omega⟩⟩
              case measure => have := HII.out; simp [int2]; omega
            case pos =>
              obtain ⟨x, rfl⟩ : ∃ x : Nat, ea = x := ⟨ea.toNat, by omega⟩
              obtain ⟨y, rfl⟩ : ∃ y : Nat, eb = y := ⟨eb.toNat, by omega⟩
              have HXY := Lib.hid (show 1 ≤ x ∧ x ≤ y ∧ y ≤ n + 1 by omega)
              clear hq hq2 hq3
              as_aux_lemma =>
                by_cases hv : (charsD etx.data.toList).isSome = true
                case pos =>
                  have HV := Lib.hid hv
                  clear hv
                  by_cases hc : y ≤ pt
                  case pos =>
                    have HCS0 := Lib.hid hc
                    clear hc
                    obtain ⟨dd, hdd⟩ : ∃ dd : Nat, dd = y - x := ⟨_, rfl⟩
                    obtain ⟨ww, hww⟩ : ∃ ww : Nat, ww = pt - dd := ⟨_, rfl⟩
                    have HDD := Lib.hid (⟨hdd, hww⟩ : _ ∧ _)
                    clear hdd hww
                    by_cases hc3 : x < ww
                    case pos =>
                      have HCS := Lib.hid (⟨HCS0.out, hc3⟩ : _ ∧ _)
                      clear hc3
                      have hE1 : delE T 1 (x : Int) = 0 := by unfold delE; rw [if_pos (reach_iff.2 (by rw [HW.out.2.1.lo, HW.out.2.1.hi]; have := hpe.out; have := HNn.out; have := HXY.out; have := HP.out; omega))]
                      have hE2 : delE T (y : Int) (n1 : Int) = 0 := by unfold delE; rw [if_pos (reach_iff.2 (by rw [HW.out.2.1.lo, HW.out.2.1.hi]; have := hpe.out; have := HNn.out; have := HXY.out; have := HP.out; omega))]
                      have hEE : repE T (x : Int) (y : Int) etx = 0 := by unfold repE; rw [if_pos (reach_iff.2 (by rw [HW.out.2.1.lo, HW.out.2.1.hi]; have := hpe.out; have := HNn.out; have := HXY.out; have := HP.out; omega)), fits_short (by have := hn3000.out; omega) HTS.out (by have := HXY.out; omega), if_pos HV.out]
                      have le1 : decide ((x : Int) ≤ (y : Int)) = true := decide_eq_true (by have := HXY.out; omega)
                      have le2 : ((x : Int) ≤ (y : Int)) = True := eq_true (by have := HXY.out; omega)
                      have le3 : (x ≤ y) = True := eq_true (by have := HXY.out; omega)
                      obtain ⟨hd, hhd⟩ : ∃ hd, hd = textV T 1 (x : Int) := ⟨_, rfl⟩
                      obtain ⟨tl, htl⟩ : ∃ tl, tl = textV T (y : Int) (n1 : Int) := ⟨_, rfl⟩
                      have HG1 := Lib.hid (show ∀ W, Below w5.heap.size w5 W → Calls Tryz.prog 11 #[pAt b, .int .i64 1, .int .i64 (x : Int)] W fun r w' => r = .returned (.tuple #[.string hd, .int .i64 0]) ∧ Below W.heap.size W w' from fun W hb => by
                        have q := pText (S5.out.pb.up hb) 1 (x : Int)
                        rw [hE1, ← hhd] at q; exact q)
                      have HG2 := Lib.hid (show ∀ W, Below w5.heap.size w5 W → Calls Tryz.prog 11 #[pAt b, .int .i64 (y : Int), .int .i64 (n1 : Int)] W fun r w' => r = .returned (.tuple #[.string tl, .int .i64 0]) ∧ Below W.heap.size W w' from fun W hb => by
                        have q := pText (S5.out.pb.up hb) (y : Int) (n1 : Int)
                        rw [hE2, ← htl] at q; exact q)
                      have HSZ := Lib.hid (show ∀ W, Below w5.heap.size w5 W → Calls Tryz.prog 12 #[pAt b] W fun r w' => r = .returned (.int .i64 (n : Int)) ∧ Below W.heap.size W w' from fun W hb => by
                        have q := bsize (S5.out.pb.up hb).r
                        rw [← HNn.out.1] at q; exact q)
                      have Hhd := Lib.hid hhd
                      have Htl := Lib.hid htl
                      obtain ⟨T2, hT2⟩ : ∃ T2 : Tx, T2 = repT T x y (chrs etx) := ⟨_, rfl⟩
                      obtain ⟨BB, hBB⟩ : ∃ BB : Nat, BB = B + T.cs.length + 8 := ⟨_, rfl⟩
                      have HBB := Lib.hid hBB
                      have HDO := Lib.hid (show ∀ W, St N w1 w1.heap.size b W T B → Calls Tryz.prog 13 #[pAt b, actV (⟨ek, (x : Int), (y : Int), eid, enm, etx, eon, eal, evk, evn, esA, esp, esc⟩ : AcE)] W (DoP N W b (fun k => w1.heap.size ≤ k) 0 T2 BB) from fun W hS => by
                        have q := do_rep6 (e := (⟨ek, (x : Int), (y : Int), eid, enm, etx, eon, eal, evk, evn, esA, esp, esc⟩ : AcE)) (hS.tabs hN1.out (Nat.le_refl _) T1.out) (hS.rules hN1.out (Nat.le_refl _) R1.out) hS.pb (fun k hk => Nat.le_trans hN1.out hk) (by have := HW.out.1; have := HII.out.2; omega) HW.out.2.1.ro HTS.out (HK.out.symm)
                        rw [hEE] at q
                        first | rw [if_pos rfl] at q | rw [if_neg (by decide)] at q
                        try simp only [← HK.out] at q
                        try simp only [Int.toNat_natCast] at q
                        rw [← hBB, ← hT2] at q
                        exact q)
                      have HT2 := Lib.hid hT2
                      clear hhd htl hT2 hBB hE1 hE2 hEE
                      have a1 := (HC.out w5 S5.out.bl).c1
                      have a2 := (HC.out w5 S5.out.bl).c2
                      go_wp2_with fail
                      go_region
                      go_wp2_with fail
                      clear a1 a2
                      refine (HG1.out _ (Below.refl _ w5).drew).mono ?_
                      rintro r w6 ⟨rfl, hb6⟩
                      have B6 := Lib.hid (show Below w5.heap.size w5 w6 from ((Below.refl _ w5).drew).trans hb6)
                      clear hb6 HG1
                      go_wp2_with fail
                      refine (HSZ.out _ B6.out).mono ?_
                      rintro r w7 ⟨rfl, hb7⟩
                      have B7 := Lib.hid (up2 B6.out hb7)
                      clear hb7
                      go_wp2_with fail
                      refine (HG2.out _ B7.out).mono ?_
                      rintro r w8 ⟨rfl, hb8⟩
                      have B8 := Lib.hid (up2 B7.out hb8)
                      have S8 := Lib.hid (S5.out.up B8.out)
                      clear hb8 HG2
                      have aC := HC.out w8 S8.out.bl
                      have a0 := aC.c0
                      have a1 := aC.c1
                      have a2 := aC.c2
                      have a3 := aC.c3
                      have a4 := aC.c4
                      have a5 := aC.c5
                      have a6 := aC.c6
                      have a7 := aC.c7
                      have a8 := aC.c8
                      have a9 := aC.c9
                      have a10 := aC.c10
                      clear aC
                      simp only at a0 a1 a2 a3 a4 a5 a6 a7 a8 a9 a10
                      go_wp2_with fail
                      refine (HDO.out w8 S8.out).mono ?_
                      rintro r w9 ⟨rfl, ho9, hp9⟩
                      have S9 := Lib.hid (S8.out.next ⟨ho9, hp9⟩)
                      clear ho9 hp9 HDO a0 a1 a2 a3 a4 a5 a6 a7 a8 a9 a10
                      have a5 : w9.cell? ⟨g, o2 + i * 11 + 5, none⟩ = some (.string etx) := (HC.out w9 S9.out.bl).c5
                      go_wp2_with fail
                      have HVL := Lib.hid (show Calls Tryz.prog 7 #[.string etx] w9 fun e w' => e = .returned (.bool true) ∧ Below w9.heap.size w9 w' from by
                        have q := rvalid_any etx w9 (by first | (have := HTS.out; omega) | decide)
                        rw [vld_chars] at q
                        have hvv := HV.out
                        rw [hvv] at q; exact q)
                      refine HVL.out.mono ?_
                      rintro r w10 ⟨rfl, hb10⟩
                      have S10 := Lib.hid (S9.out.up hb10)
                      clear hb10 HVL S9
                      go_wp2_with fail
                      obtain ⟨mm, hmm⟩ : ∃ mm : Nat, mm = (chrs etx).length := ⟨_, rfl⟩
                      have HMM := Lib.hid (show lenR etx = mm from hmm.symm)
                      have HMZ := Lib.hid (show mm ≤ 60 by have := chrs_len etx; have := HTS.out; omega)
                      have HMC := Lib.hid hmm
                      clear hmm
                      obtain ⟨wt, hwt⟩ : ∃ wt : Nat, wt = ww + mm := ⟨_, rfl⟩
                      have HWW := Lib.hid hwt
                      have HWT := Lib.hid (show T2.S.pt = wt by rw [HT2.out, hwt]; rw [repT_pt, ← HMC.out, ← HP.out]; unfold insN delN; have := hpe.out; have := hn3000.out; have := HNn.out; have := HXY.out; have := HCS.out; have := HDD.out; simp only [Bool.false_eq_true, and_false, or_false]; (repeat' split) <;> omega)
                      clear hwt
                      have HLN := Lib.hid (show Calls Tryz.prog 14 #[.string etx] w10 fun e w' => e = .returned (.int .i64 (mm : Int)) ∧ Below w10.heap.size w10 w' from by
                        have q := rlen_any etx w10 (by first | (have := HTS.out; omega) | decide)
                        rw [HMM.out] at q; exact q)
                      refine HLN.out.mono ?_
                      rintro r w11 ⟨rfl, hb11⟩
                      have S11 := Lib.hid (S10.out.up hb11)
                      clear hb11 HLN S10
                      have sdd : IntKind.i64.wrap ((y : Int) - (x : Int)) = (dd : Int) := by rw [IntWalk.i64_in _ (by have := hpe.out; have := hn3000.out; have := HNn.out; have := HXY.out; omega)]; have := HDD.out; have := HXY.out; omega
                      have sww : IntKind.i64.wrap ((pt : Int) - (dd : Int)) = (ww : Int) := by rw [IntWalk.i64_in _ (by have := hpe.out; have := hn3000.out; have := HNn.out; have := HXY.out; have := HDD.out; omega)]; have := HDD.out; have := HCS.out; have := HXY.out; omega
                      have sw2 : IntKind.i64.wrap (ww : Int) = (ww : Int) := IntWalk.i64_in _ (by have := hpe.out; have := hn3000.out; have := HNn.out; have := HXY.out; have := HDD.out; omega)
                      have q1 : decide (((y : Nat) : Int) ≤ ((pt : Nat) : Int)) = true := decide_eq_true (by have := HCS.out; omega)
                      have q2 : (((y : Nat) : Int) ≤ ((pt : Nat) : Int)) = True := eq_true (by have := HCS.out; omega)
                      have q3 : (y ≤ pt) = True := eq_true (by have := HCS.out; omega)
                      have p1 : decide (((x : Nat) : Int) < ((ww : Nat) : Int)) = true := decide_eq_true (by have := HCS.out; omega)
                      have p2 : (((x : Nat) : Int) < ((ww : Nat) : Int)) = True := eq_true (by have := HCS.out; omega)
                      have p3 : (x < ww) = True := eq_true (by have := HCS.out; omega)
                      have wadd : IntKind.i64.wrap ((ww : Int) + (mm : Int)) = (wt : Int) := by rw [IntWalk.i64_in _ (by have := hpe.out; have := hn3000.out; have := HNn.out; have := HXY.out; have := HMZ.out; have := HDD.out; omega)]; have := HWW.out; omega
                      obtain ⟨al, hal⟩ : ∃ al, al = encS T2.cs := ⟨_, rfl⟩
                      have hcat : hd ++ etx ++ tl = al := by
                        rw [hal, HT2.out, Hhd.out, Htl.out, HNn.out.2, HNn.out.1]
                        exact (by have q := parts_rep T (s := etx) (show 1 ≤ x by have := HXY.out; omega) (show x ≤ y by have := HXY.out; omega) (show y ≤ T.cs.length + 1 by have := HXY.out; have := HNn.out; omega) HV.out; rw [← q]; unfold head3 tail3 textV; rw [if_pos (reach_iff.2 (by rw [HW.out.2.1.lo, HW.out.2.1.hi]; have := hpe.out; have := HNn.out; have := HXY.out; have := HP.out; omega)), if_pos (reach_iff.2 (by rw [HW.out.2.1.lo, HW.out.2.1.hi]; have := hpe.out; have := HNn.out; have := HXY.out; have := HP.out; omega))]; rfl)
                      obtain ⟨h2, hh2⟩ : ∃ h2, hd ++ etx = h2 := ⟨_, rfl⟩
                      rw [hh2] at hcat
                      have hz1 : hd.size ≤ 20000 := by rw [Hhd.out]; exact textV_le hn3000.out _ _
                      have hz2 : tl.size ≤ 20000 := by rw [Htl.out]; exact textV_le hn3000.out _ _
                      have htz : (etx : ByteArray).size ≤ 60 := by first | exact HTS.out | decide
                      have hz3 : h2.size ≤ 20060 := by rw [← hh2, ByteArray.size_append]; omega
                      have hs1 : hd.size + (etx : ByteArray).size ≤ 9223372036854775807 := by omega
                      have hs2 : h2.size + tl.size ≤ 9223372036854775807 := by omega
                      have eal2 : (al.toList == al.toList) = true := by simp
                      have HAL := Lib.hid (show Calls Tryz.prog 9 #[pAt b] w11 fun r w' => r = .returned (.string al) ∧ Below w11.heap.size w11 w' from by
                        have q := pAll S11.out.pb
                        rw [← hal] at q; exact q)
                      clear hal hz1 hz2 hz3 htz est
                      go_wp2_with fail
                      refine HAL.out.mono ?_
                      rintro r w12 ⟨rfl, hb12⟩
                      have S12 := Lib.hid (S11.out.up hb12)
                      clear hb12 HAL S11
                      go_wp2_with fail
                      have hpo := bpoint S12.out.pb.r
                      rw [HWT.out] at hpo
                      refine hpo.mono ?_
                      rintro r w13 ⟨rfl, hw13⟩
                      have S13 := Lib.hid (hw13 ▸ S12.out)
                      clear hpo S12 hw13
                      go_wp2_with fail
                      go_roundw
                      case rel =>
                        refine ⟨i + 1, by have := HII.out; omega, by first | rfl | go_num, T2, _, ⟨S13.out, by have := HW.out.1; have := hn3000.out; have := HBB.out; omega, ?_, ?_⟩⟩
                        · rw [HT2.out]; exact HW.out.2.1.rep (by have := HXY.out; omega) (by have := HXY.out; omega) (by have := HXY.out; have := HNn.out; omega)
                        · rw [HT2.out]; unfold repT; rw [putT_cs, insC_len, takeT_len (by have := HXY.out; omega) (by have := HXY.out; omega) (by have := HXY.out; have := HNn.out; omega)]; have := HW.out.2.2; have := chrs_len etx; have := HTS.out; omega
                      case measure => have := HII.out; simp [int2]; omega
                    case neg =>
                      have HCS := Lib.hid (⟨HCS0.out, hc3⟩ : _ ∧ _)
                      clear hc3
                      have hE1 : delE T 1 (x : Int) = 0 := by unfold delE; rw [if_pos (reach_iff.2 (by rw [HW.out.2.1.lo, HW.out.2.1.hi]; have := hpe.out; have := HNn.out; have := HXY.out; have := HP.out; omega))]
                      have hE2 : delE T (y : Int) (n1 : Int) = 0 := by unfold delE; rw [if_pos (reach_iff.2 (by rw [HW.out.2.1.lo, HW.out.2.1.hi]; have := hpe.out; have := HNn.out; have := HXY.out; have := HP.out; omega))]
                      have hEE : repE T (x : Int) (y : Int) etx = 0 := by unfold repE; rw [if_pos (reach_iff.2 (by rw [HW.out.2.1.lo, HW.out.2.1.hi]; have := hpe.out; have := HNn.out; have := HXY.out; have := HP.out; omega)), fits_short (by have := hn3000.out; omega) HTS.out (by have := HXY.out; omega), if_pos HV.out]
                      have le1 : decide ((x : Int) ≤ (y : Int)) = true := decide_eq_true (by have := HXY.out; omega)
                      have le2 : ((x : Int) ≤ (y : Int)) = True := eq_true (by have := HXY.out; omega)
                      have le3 : (x ≤ y) = True := eq_true (by have := HXY.out; omega)
                      obtain ⟨hd, hhd⟩ : ∃ hd, hd = textV T 1 (x : Int) := ⟨_, rfl⟩
                      obtain ⟨tl, htl⟩ : ∃ tl, tl = textV T (y : Int) (n1 : Int) := ⟨_, rfl⟩
                      have HG1 := Lib.hid (show ∀ W, Below w5.heap.size w5 W → Calls Tryz.prog 11 #[pAt b, .int .i64 1, .int .i64 (x : Int)] W fun r w' => r = .returned (.tuple #[.string hd, .int .i64 0]) ∧ Below W.heap.size W w' from fun W hb => by
                        have q := pText (S5.out.pb.up hb) 1 (x : Int)
                        rw [hE1, ← hhd] at q; exact q)
                      have HG2 := Lib.hid (show ∀ W, Below w5.heap.size w5 W → Calls Tryz.prog 11 #[pAt b, .int .i64 (y : Int), .int .i64 (n1 : Int)] W fun r w' => r = .returned (.tuple #[.string tl, .int .i64 0]) ∧ Below W.heap.size W w' from fun W hb => by
                        have q := pText (S5.out.pb.up hb) (y : Int) (n1 : Int)
                        rw [hE2, ← htl] at q; exact q)
                      have HSZ := Lib.hid (show ∀ W, Below w5.heap.size w5 W → Calls Tryz.prog 12 #[pAt b] W fun r w' => r = .returned (.int .i64 (n : Int)) ∧ Below W.heap.size W w' from fun W hb => by
                        have q := bsize (S5.out.pb.up hb).r
                        rw [← HNn.out.1] at q; exact q)
                      have Hhd := Lib.hid hhd
                      have Htl := Lib.hid htl
                      obtain ⟨T2, hT2⟩ : ∃ T2 : Tx, T2 = repT T x y (chrs etx) := ⟨_, rfl⟩
                      obtain ⟨BB, hBB⟩ : ∃ BB : Nat, BB = B + T.cs.length + 8 := ⟨_, rfl⟩
                      have HBB := Lib.hid hBB
                      have HDO := Lib.hid (show ∀ W, St N w1 w1.heap.size b W T B → Calls Tryz.prog 13 #[pAt b, actV (⟨ek, (x : Int), (y : Int), eid, enm, etx, eon, eal, evk, evn, esA, esp, esc⟩ : AcE)] W (DoP N W b (fun k => w1.heap.size ≤ k) 0 T2 BB) from fun W hS => by
                        have q := do_rep6 (e := (⟨ek, (x : Int), (y : Int), eid, enm, etx, eon, eal, evk, evn, esA, esp, esc⟩ : AcE)) (hS.tabs hN1.out (Nat.le_refl _) T1.out) (hS.rules hN1.out (Nat.le_refl _) R1.out) hS.pb (fun k hk => Nat.le_trans hN1.out hk) (by have := HW.out.1; have := HII.out.2; omega) HW.out.2.1.ro HTS.out (HK.out.symm)
                        rw [hEE] at q
                        first | rw [if_pos rfl] at q | rw [if_neg (by decide)] at q
                        try simp only [← HK.out] at q
                        try simp only [Int.toNat_natCast] at q
                        rw [← hBB, ← hT2] at q
                        exact q)
                      have HT2 := Lib.hid hT2
                      clear hhd htl hT2 hBB hE1 hE2 hEE
                      have a1 := (HC.out w5 S5.out.bl).c1
                      have a2 := (HC.out w5 S5.out.bl).c2
                      go_wp2_with fail
                      go_region
                      go_wp2_with fail
                      clear a1 a2
                      refine (HG1.out _ (Below.refl _ w5).drew).mono ?_
                      rintro r w6 ⟨rfl, hb6⟩
                      have B6 := Lib.hid (show Below w5.heap.size w5 w6 from ((Below.refl _ w5).drew).trans hb6)
                      clear hb6 HG1
                      go_wp2_with fail
                      refine (HSZ.out _ B6.out).mono ?_
                      rintro r w7 ⟨rfl, hb7⟩
                      have B7 := Lib.hid (up2 B6.out hb7)
                      clear hb7
                      go_wp2_with fail
                      refine (HG2.out _ B7.out).mono ?_
                      rintro r w8 ⟨rfl, hb8⟩
                      have B8 := Lib.hid (up2 B7.out hb8)
                      have S8 := Lib.hid (S5.out.up B8.out)
                      clear hb8 HG2
                      have aC := HC.out w8 S8.out.bl
                      have a0 := aC.c0
                      have a1 := aC.c1
                      have a2 := aC.c2
                      have a3 := aC.c3
                      have a4 := aC.c4
                      have a5 := aC.c5
                      have a6 := aC.c6
                      have a7 := aC.c7
                      have a8 := aC.c8
                      have a9 := aC.c9
                      have a10 := aC.c10
                      clear aC
                      simp only at a0 a1 a2 a3 a4 a5 a6 a7 a8 a9 a10
                      go_wp2_with fail
                      refine (HDO.out w8 S8.out).mono ?_
                      rintro r w9 ⟨rfl, ho9, hp9⟩
                      have S9 := Lib.hid (S8.out.next ⟨ho9, hp9⟩)
                      clear ho9 hp9 HDO a0 a1 a2 a3 a4 a5 a6 a7 a8 a9 a10
                      have a5 : w9.cell? ⟨g, o2 + i * 11 + 5, none⟩ = some (.string etx) := (HC.out w9 S9.out.bl).c5
                      go_wp2_with fail
                      have HVL := Lib.hid (show Calls Tryz.prog 7 #[.string etx] w9 fun e w' => e = .returned (.bool true) ∧ Below w9.heap.size w9 w' from by
                        have q := rvalid_any etx w9 (by first | (have := HTS.out; omega) | decide)
                        rw [vld_chars] at q
                        have hvv := HV.out
                        rw [hvv] at q; exact q)
                      refine HVL.out.mono ?_
                      rintro r w10 ⟨rfl, hb10⟩
                      have S10 := Lib.hid (S9.out.up hb10)
                      clear hb10 HVL S9
                      go_wp2_with fail
                      obtain ⟨mm, hmm⟩ : ∃ mm : Nat, mm = (chrs etx).length := ⟨_, rfl⟩
                      have HMM := Lib.hid (show lenR etx = mm from hmm.symm)
                      have HMZ := Lib.hid (show mm ≤ 60 by have := chrs_len etx; have := HTS.out; omega)
                      have HMC := Lib.hid hmm
                      clear hmm
                      have HWT := Lib.hid (show T2.S.pt = ww by rw [HT2.out]; rw [repT_pt, ← HMC.out, ← HP.out]; unfold insN delN; have := hpe.out; have := hn3000.out; have := HNn.out; have := HXY.out; have := HCS.out; have := HDD.out; simp only [Bool.false_eq_true, and_false, or_false]; (repeat' split) <;> omega)
                      have HLN := Lib.hid (show Calls Tryz.prog 14 #[.string etx] w10 fun e w' => e = .returned (.int .i64 (mm : Int)) ∧ Below w10.heap.size w10 w' from by
                        have q := rlen_any etx w10 (by first | (have := HTS.out; omega) | decide)
                        rw [HMM.out] at q; exact q)
                      refine HLN.out.mono ?_
                      rintro r w11 ⟨rfl, hb11⟩
                      have S11 := Lib.hid (S10.out.up hb11)
                      clear hb11 HLN S10
                      have sdd : IntKind.i64.wrap ((y : Int) - (x : Int)) = (dd : Int) := by rw [IntWalk.i64_in _ (by have := hpe.out; have := hn3000.out; have := HNn.out; have := HXY.out; omega)]; have := HDD.out; have := HXY.out; omega
                      have sww : IntKind.i64.wrap ((pt : Int) - (dd : Int)) = (ww : Int) := by rw [IntWalk.i64_in _ (by have := hpe.out; have := hn3000.out; have := HNn.out; have := HXY.out; have := HDD.out; omega)]; have := HDD.out; have := HCS.out; have := HXY.out; omega
                      have sw2 : IntKind.i64.wrap (ww : Int) = (ww : Int) := IntWalk.i64_in _ (by have := hpe.out; have := hn3000.out; have := HNn.out; have := HXY.out; have := HDD.out; omega)
                      have q1 : decide (((y : Nat) : Int) ≤ ((pt : Nat) : Int)) = true := decide_eq_true (by have := HCS.out; omega)
                      have q2 : (((y : Nat) : Int) ≤ ((pt : Nat) : Int)) = True := eq_true (by have := HCS.out; omega)
                      have q3 : (y ≤ pt) = True := eq_true (by have := HCS.out; omega)
                      have p1 : decide (((x : Nat) : Int) < ((ww : Nat) : Int)) = false := decide_eq_false (by have := HCS.out; omega)
                      have p2 : (((x : Nat) : Int) < ((ww : Nat) : Int)) = False := eq_false (by have := HCS.out; omega)
                      have p3 : (x < ww) = False := eq_false (by have := HCS.out; omega)
                      obtain ⟨al, hal⟩ : ∃ al, al = encS T2.cs := ⟨_, rfl⟩
                      have hcat : hd ++ etx ++ tl = al := by
                        rw [hal, HT2.out, Hhd.out, Htl.out, HNn.out.2, HNn.out.1]
                        exact (by have q := parts_rep T (s := etx) (show 1 ≤ x by have := HXY.out; omega) (show x ≤ y by have := HXY.out; omega) (show y ≤ T.cs.length + 1 by have := HXY.out; have := HNn.out; omega) HV.out; rw [← q]; unfold head3 tail3 textV; rw [if_pos (reach_iff.2 (by rw [HW.out.2.1.lo, HW.out.2.1.hi]; have := hpe.out; have := HNn.out; have := HXY.out; have := HP.out; omega)), if_pos (reach_iff.2 (by rw [HW.out.2.1.lo, HW.out.2.1.hi]; have := hpe.out; have := HNn.out; have := HXY.out; have := HP.out; omega))]; rfl)
                      obtain ⟨h2, hh2⟩ : ∃ h2, hd ++ etx = h2 := ⟨_, rfl⟩
                      rw [hh2] at hcat
                      have hz1 : hd.size ≤ 20000 := by rw [Hhd.out]; exact textV_le hn3000.out _ _
                      have hz2 : tl.size ≤ 20000 := by rw [Htl.out]; exact textV_le hn3000.out _ _
                      have htz : (etx : ByteArray).size ≤ 60 := by first | exact HTS.out | decide
                      have hz3 : h2.size ≤ 20060 := by rw [← hh2, ByteArray.size_append]; omega
                      have hs1 : hd.size + (etx : ByteArray).size ≤ 9223372036854775807 := by omega
                      have hs2 : h2.size + tl.size ≤ 9223372036854775807 := by omega
                      have eal2 : (al.toList == al.toList) = true := by simp
                      have HAL := Lib.hid (show Calls Tryz.prog 9 #[pAt b] w11 fun r w' => r = .returned (.string al) ∧ Below w11.heap.size w11 w' from by
                        have q := pAll S11.out.pb
                        rw [← hal] at q; exact q)
                      clear hal hz1 hz2 hz3 htz est
                      go_wp2_with fail
                      refine HAL.out.mono ?_
                      rintro r w12 ⟨rfl, hb12⟩
                      have S12 := Lib.hid (S11.out.up hb12)
                      clear hb12 HAL S11
                      go_wp2_with fail
                      have hpo := bpoint S12.out.pb.r
                      rw [HWT.out] at hpo
                      refine hpo.mono ?_
                      rintro r w13 ⟨rfl, hw13⟩
                      have S13 := Lib.hid (hw13 ▸ S12.out)
                      clear hpo S12 hw13
                      go_wp2_with fail
                      go_roundw
                      case rel =>
                        refine ⟨i + 1, by have := HII.out; omega, by first | rfl | go_num, T2, _, ⟨S13.out, by have := HW.out.1; have := hn3000.out; have := HBB.out; omega, ?_, ?_⟩⟩
                        · rw [HT2.out]; exact HW.out.2.1.rep (by have := HXY.out; omega) (by have := HXY.out; omega) (by have := HXY.out; have := HNn.out; omega)
                        · rw [HT2.out]; unfold repT; rw [putT_cs, insC_len, takeT_len (by have := HXY.out; omega) (by have := HXY.out; omega) (by have := HXY.out; have := HNn.out; omega)]; have := HW.out.2.2; have := chrs_len etx; have := HTS.out; omega
                      case measure => have := HII.out; simp [int2]; omega
                  case neg =>
                    by_cases hc2 : x < pt
                    case pos =>
                      have HCS := Lib.hid (⟨hc, hc2⟩ : _ ∧ _)
                      clear hc hc2
                      have hE1 : delE T 1 (x : Int) = 0 := by unfold delE; rw [if_pos (reach_iff.2 (by rw [HW.out.2.1.lo, HW.out.2.1.hi]; have := hpe.out; have := HNn.out; have := HXY.out; have := HP.out; omega))]
                      have hE2 : delE T (y : Int) (n1 : Int) = 0 := by unfold delE; rw [if_pos (reach_iff.2 (by rw [HW.out.2.1.lo, HW.out.2.1.hi]; have := hpe.out; have := HNn.out; have := HXY.out; have := HP.out; omega))]
                      have hEE : repE T (x : Int) (y : Int) etx = 0 := by unfold repE; rw [if_pos (reach_iff.2 (by rw [HW.out.2.1.lo, HW.out.2.1.hi]; have := hpe.out; have := HNn.out; have := HXY.out; have := HP.out; omega)), fits_short (by have := hn3000.out; omega) HTS.out (by have := HXY.out; omega), if_pos HV.out]
                      have le1 : decide ((x : Int) ≤ (y : Int)) = true := decide_eq_true (by have := HXY.out; omega)
                      have le2 : ((x : Int) ≤ (y : Int)) = True := eq_true (by have := HXY.out; omega)
                      have le3 : (x ≤ y) = True := eq_true (by have := HXY.out; omega)
                      obtain ⟨hd, hhd⟩ : ∃ hd, hd = textV T 1 (x : Int) := ⟨_, rfl⟩
                      obtain ⟨tl, htl⟩ : ∃ tl, tl = textV T (y : Int) (n1 : Int) := ⟨_, rfl⟩
                      have HG1 := Lib.hid (show ∀ W, Below w5.heap.size w5 W → Calls Tryz.prog 11 #[pAt b, .int .i64 1, .int .i64 (x : Int)] W fun r w' => r = .returned (.tuple #[.string hd, .int .i64 0]) ∧ Below W.heap.size W w' from fun W hb => by
                        have q := pText (S5.out.pb.up hb) 1 (x : Int)
                        rw [hE1, ← hhd] at q; exact q)
                      have HG2 := Lib.hid (show ∀ W, Below w5.heap.size w5 W → Calls Tryz.prog 11 #[pAt b, .int .i64 (y : Int), .int .i64 (n1 : Int)] W fun r w' => r = .returned (.tuple #[.string tl, .int .i64 0]) ∧ Below W.heap.size W w' from fun W hb => by
                        have q := pText (S5.out.pb.up hb) (y : Int) (n1 : Int)
                        rw [hE2, ← htl] at q; exact q)
                      have HSZ := Lib.hid (show ∀ W, Below w5.heap.size w5 W → Calls Tryz.prog 12 #[pAt b] W fun r w' => r = .returned (.int .i64 (n : Int)) ∧ Below W.heap.size W w' from fun W hb => by
                        have q := bsize (S5.out.pb.up hb).r
                        rw [← HNn.out.1] at q; exact q)
                      have Hhd := Lib.hid hhd
                      have Htl := Lib.hid htl
                      obtain ⟨T2, hT2⟩ : ∃ T2 : Tx, T2 = repT T x y (chrs etx) := ⟨_, rfl⟩
                      obtain ⟨BB, hBB⟩ : ∃ BB : Nat, BB = B + T.cs.length + 8 := ⟨_, rfl⟩
                      have HBB := Lib.hid hBB
                      have HDO := Lib.hid (show ∀ W, St N w1 w1.heap.size b W T B → Calls Tryz.prog 13 #[pAt b, actV (⟨ek, (x : Int), (y : Int), eid, enm, etx, eon, eal, evk, evn, esA, esp, esc⟩ : AcE)] W (DoP N W b (fun k => w1.heap.size ≤ k) 0 T2 BB) from fun W hS => by
                        have q := do_rep6 (e := (⟨ek, (x : Int), (y : Int), eid, enm, etx, eon, eal, evk, evn, esA, esp, esc⟩ : AcE)) (hS.tabs hN1.out (Nat.le_refl _) T1.out) (hS.rules hN1.out (Nat.le_refl _) R1.out) hS.pb (fun k hk => Nat.le_trans hN1.out hk) (by have := HW.out.1; have := HII.out.2; omega) HW.out.2.1.ro HTS.out (HK.out.symm)
                        rw [hEE] at q
                        first | rw [if_pos rfl] at q | rw [if_neg (by decide)] at q
                        try simp only [← HK.out] at q
                        try simp only [Int.toNat_natCast] at q
                        rw [← hBB, ← hT2] at q
                        exact q)
                      have HT2 := Lib.hid hT2
                      clear hhd htl hT2 hBB hE1 hE2 hEE
                      have a1 := (HC.out w5 S5.out.bl).c1
                      have a2 := (HC.out w5 S5.out.bl).c2
                      go_wp2_with fail
                      go_region
                      go_wp2_with fail
                      clear a1 a2
                      refine (HG1.out _ (Below.refl _ w5).drew).mono ?_
                      rintro r w6 ⟨rfl, hb6⟩
                      have B6 := Lib.hid (show Below w5.heap.size w5 w6 from ((Below.refl _ w5).drew).trans hb6)
                      clear hb6 HG1
                      go_wp2_with fail
                      refine (HSZ.out _ B6.out).mono ?_
                      rintro r w7 ⟨rfl, hb7⟩
                      have B7 := Lib.hid (up2 B6.out hb7)
                      clear hb7
                      go_wp2_with fail
                      refine (HG2.out _ B7.out).mono ?_
                      rintro r w8 ⟨rfl, hb8⟩
                      have B8 := Lib.hid (up2 B7.out hb8)
                      have S8 := Lib.hid (S5.out.up B8.out)
                      clear hb8 HG2
                      have aC := HC.out w8 S8.out.bl
                      have a0 := aC.c0
                      have a1 := aC.c1
                      have a2 := aC.c2
                      have a3 := aC.c3
                      have a4 := aC.c4
                      have a5 := aC.c5
                      have a6 := aC.c6
                      have a7 := aC.c7
                      have a8 := aC.c8
                      have a9 := aC.c9
                      have a10 := aC.c10
                      clear aC
                      simp only at a0 a1 a2 a3 a4 a5 a6 a7 a8 a9 a10
                      go_wp2_with fail
                      refine (HDO.out w8 S8.out).mono ?_
                      rintro r w9 ⟨rfl, ho9, hp9⟩
                      have S9 := Lib.hid (S8.out.next ⟨ho9, hp9⟩)
                      clear ho9 hp9 HDO a0 a1 a2 a3 a4 a5 a6 a7 a8 a9 a10
                      have a5 : w9.cell? ⟨g, o2 + i * 11 + 5, none⟩ = some (.string etx) := (HC.out w9 S9.out.bl).c5
                      go_wp2_with fail
                      have HVL := Lib.hid (show Calls Tryz.prog 7 #[.string etx] w9 fun e w' => e = .returned (.bool true) ∧ Below w9.heap.size w9 w' from by
                        have q := rvalid_any etx w9 (by first | (have := HTS.out; omega) | decide)
                        rw [vld_chars] at q
                        have hvv := HV.out
                        rw [hvv] at q; exact q)
                      refine HVL.out.mono ?_
                      rintro r w10 ⟨rfl, hb10⟩
                      have S10 := Lib.hid (S9.out.up hb10)
                      clear hb10 HVL S9
                      go_wp2_with fail
                      obtain ⟨mm, hmm⟩ : ∃ mm : Nat, mm = (chrs etx).length := ⟨_, rfl⟩
                      have HMM := Lib.hid (show lenR etx = mm from hmm.symm)
                      have HMZ := Lib.hid (show mm ≤ 60 by have := chrs_len etx; have := HTS.out; omega)
                      have HMC := Lib.hid hmm
                      clear hmm
                      have HWT := Lib.hid (show T2.S.pt = x by rw [HT2.out]; rw [repT_pt, ← HMC.out, ← HP.out]; unfold insN delN; have := hpe.out; have := hn3000.out; have := HNn.out; have := HXY.out; have := HCS.out; simp only [Bool.false_eq_true, and_false, or_false]; (repeat' split) <;> omega)
                      have HLN := Lib.hid (show Calls Tryz.prog 14 #[.string etx] w10 fun e w' => e = .returned (.int .i64 (mm : Int)) ∧ Below w10.heap.size w10 w' from by
                        have q := rlen_any etx w10 (by first | (have := HTS.out; omega) | decide)
                        rw [HMM.out] at q; exact q)
                      refine HLN.out.mono ?_
                      rintro r w11 ⟨rfl, hb11⟩
                      have S11 := Lib.hid (S10.out.up hb11)
                      clear hb11 HLN S10
                      have q1 : decide (((y : Nat) : Int) ≤ ((pt : Nat) : Int)) = false := decide_eq_false (by have := HCS.out; omega)
                      have q2 : (((y : Nat) : Int) ≤ ((pt : Nat) : Int)) = False := eq_false (by have := HCS.out; omega)
                      have q3 : (y ≤ pt) = False := eq_false (by have := HCS.out; omega)
                      have p1 : decide (((x : Nat) : Int) < ((pt : Nat) : Int)) = true := decide_eq_true (by have := HCS.out; omega)
                      have p2 : (((x : Nat) : Int) < ((pt : Nat) : Int)) = True := eq_true (by have := HCS.out; omega)
                      have p3 : (x < pt) = True := eq_true (by have := HCS.out; omega)
                      obtain ⟨al, hal⟩ : ∃ al, al = encS T2.cs := ⟨_, rfl⟩
                      have hcat : hd ++ etx ++ tl = al := by
                        rw [hal, HT2.out, Hhd.out, Htl.out, HNn.out.2, HNn.out.1]
                        exact (by have q := parts_rep T (s := etx) (show 1 ≤ x by have := HXY.out; omega) (show x ≤ y by have := HXY.out; omega) (show y ≤ T.cs.length + 1 by have := HXY.out; have := HNn.out; omega) HV.out; rw [← q]; unfold head3 tail3 textV; rw [if_pos (reach_iff.2 (by rw [HW.out.2.1.lo, HW.out.2.1.hi]; have := hpe.out; have := HNn.out; have := HXY.out; have := HP.out; omega)), if_pos (reach_iff.2 (by rw [HW.out.2.1.lo, HW.out.2.1.hi]; have := hpe.out; have := HNn.out; have := HXY.out; have := HP.out; omega))]; rfl)
                      obtain ⟨h2, hh2⟩ : ∃ h2, hd ++ etx = h2 := ⟨_, rfl⟩
                      rw [hh2] at hcat
                      have hz1 : hd.size ≤ 20000 := by rw [Hhd.out]; exact textV_le hn3000.out _ _
                      have hz2 : tl.size ≤ 20000 := by rw [Htl.out]; exact textV_le hn3000.out _ _
                      have htz : (etx : ByteArray).size ≤ 60 := by first | exact HTS.out | decide
                      have hz3 : h2.size ≤ 20060 := by rw [← hh2, ByteArray.size_append]; omega
                      have hs1 : hd.size + (etx : ByteArray).size ≤ 9223372036854775807 := by omega
                      have hs2 : h2.size + tl.size ≤ 9223372036854775807 := by omega
                      have eal2 : (al.toList == al.toList) = true := by simp
                      have HAL := Lib.hid (show Calls Tryz.prog 9 #[pAt b] w11 fun r w' => r = .returned (.string al) ∧ Below w11.heap.size w11 w' from by
                        have q := pAll S11.out.pb
                        rw [← hal] at q; exact q)
                      clear hal hz1 hz2 hz3 htz est
                      go_wp2_with fail
                      refine HAL.out.mono ?_
                      rintro r w12 ⟨rfl, hb12⟩
                      have S12 := Lib.hid (S11.out.up hb12)
                      clear hb12 HAL S11
                      go_wp2_with fail
                      have hpo := bpoint S12.out.pb.r
                      rw [HWT.out] at hpo
                      refine hpo.mono ?_
                      rintro r w13 ⟨rfl, hw13⟩
                      have S13 := Lib.hid (hw13 ▸ S12.out)
                      clear hpo S12 hw13
                      go_wp2_with fail
                      go_roundw
                      case rel =>
                        refine ⟨i + 1, by have := HII.out; omega, by first | rfl | go_num, T2, _, ⟨S13.out, by have := HW.out.1; have := hn3000.out; have := HBB.out; omega, ?_, ?_⟩⟩
                        · rw [HT2.out]; exact HW.out.2.1.rep (by have := HXY.out; omega) (by have := HXY.out; omega) (by have := HXY.out; have := HNn.out; omega)
                        · rw [HT2.out]; unfold repT; rw [putT_cs, insC_len, takeT_len (by have := HXY.out; omega) (by have := HXY.out; omega) (by have := HXY.out; have := HNn.out; omega)]; have := HW.out.2.2; have := chrs_len etx; have := HTS.out; omega
                      case measure => have := HII.out; simp [int2]; omega
                    case neg =>
                      have HCS := Lib.hid (⟨hc, hc2⟩ : _ ∧ _)
                      clear hc hc2
                      have hE1 : delE T 1 (x : Int) = 0 := by unfold delE; rw [if_pos (reach_iff.2 (by rw [HW.out.2.1.lo, HW.out.2.1.hi]; have := hpe.out; have := HNn.out; have := HXY.out; have := HP.out; omega))]
                      have hE2 : delE T (y : Int) (n1 : Int) = 0 := by unfold delE; rw [if_pos (reach_iff.2 (by rw [HW.out.2.1.lo, HW.out.2.1.hi]; have := hpe.out; have := HNn.out; have := HXY.out; have := HP.out; omega))]
                      have hEE : repE T (x : Int) (y : Int) etx = 0 := by unfold repE; rw [if_pos (reach_iff.2 (by rw [HW.out.2.1.lo, HW.out.2.1.hi]; have := hpe.out; have := HNn.out; have := HXY.out; have := HP.out; omega)), fits_short (by have := hn3000.out; omega) HTS.out (by have := HXY.out; omega), if_pos HV.out]
                      have le1 : decide ((x : Int) ≤ (y : Int)) = true := decide_eq_true (by have := HXY.out; omega)
                      have le2 : ((x : Int) ≤ (y : Int)) = True := eq_true (by have := HXY.out; omega)
                      have le3 : (x ≤ y) = True := eq_true (by have := HXY.out; omega)
                      obtain ⟨hd, hhd⟩ : ∃ hd, hd = textV T 1 (x : Int) := ⟨_, rfl⟩
                      obtain ⟨tl, htl⟩ : ∃ tl, tl = textV T (y : Int) (n1 : Int) := ⟨_, rfl⟩
                      have HG1 := Lib.hid (show ∀ W, Below w5.heap.size w5 W → Calls Tryz.prog 11 #[pAt b, .int .i64 1, .int .i64 (x : Int)] W fun r w' => r = .returned (.tuple #[.string hd, .int .i64 0]) ∧ Below W.heap.size W w' from fun W hb => by
                        have q := pText (S5.out.pb.up hb) 1 (x : Int)
                        rw [hE1, ← hhd] at q; exact q)
                      have HG2 := Lib.hid (show ∀ W, Below w5.heap.size w5 W → Calls Tryz.prog 11 #[pAt b, .int .i64 (y : Int), .int .i64 (n1 : Int)] W fun r w' => r = .returned (.tuple #[.string tl, .int .i64 0]) ∧ Below W.heap.size W w' from fun W hb => by
                        have q := pText (S5.out.pb.up hb) (y : Int) (n1 : Int)
                        rw [hE2, ← htl] at q; exact q)
                      have HSZ := Lib.hid (show ∀ W, Below w5.heap.size w5 W → Calls Tryz.prog 12 #[pAt b] W fun r w' => r = .returned (.int .i64 (n : Int)) ∧ Below W.heap.size W w' from fun W hb => by
                        have q := bsize (S5.out.pb.up hb).r
                        rw [← HNn.out.1] at q; exact q)
                      have Hhd := Lib.hid hhd
                      have Htl := Lib.hid htl
                      obtain ⟨T2, hT2⟩ : ∃ T2 : Tx, T2 = repT T x y (chrs etx) := ⟨_, rfl⟩
                      obtain ⟨BB, hBB⟩ : ∃ BB : Nat, BB = B + T.cs.length + 8 := ⟨_, rfl⟩
                      have HBB := Lib.hid hBB
                      have HDO := Lib.hid (show ∀ W, St N w1 w1.heap.size b W T B → Calls Tryz.prog 13 #[pAt b, actV (⟨ek, (x : Int), (y : Int), eid, enm, etx, eon, eal, evk, evn, esA, esp, esc⟩ : AcE)] W (DoP N W b (fun k => w1.heap.size ≤ k) 0 T2 BB) from fun W hS => by
                        have q := do_rep6 (e := (⟨ek, (x : Int), (y : Int), eid, enm, etx, eon, eal, evk, evn, esA, esp, esc⟩ : AcE)) (hS.tabs hN1.out (Nat.le_refl _) T1.out) (hS.rules hN1.out (Nat.le_refl _) R1.out) hS.pb (fun k hk => Nat.le_trans hN1.out hk) (by have := HW.out.1; have := HII.out.2; omega) HW.out.2.1.ro HTS.out (HK.out.symm)
                        rw [hEE] at q
                        first | rw [if_pos rfl] at q | rw [if_neg (by decide)] at q
                        try simp only [← HK.out] at q
                        try simp only [Int.toNat_natCast] at q
                        rw [← hBB, ← hT2] at q
                        exact q)
                      have HT2 := Lib.hid hT2
                      clear hhd htl hT2 hBB hE1 hE2 hEE
                      have a1 := (HC.out w5 S5.out.bl).c1
                      have a2 := (HC.out w5 S5.out.bl).c2
                      go_wp2_with fail
                      go_region
                      go_wp2_with fail
                      clear a1 a2
                      refine (HG1.out _ (Below.refl _ w5).drew).mono ?_
                      rintro r w6 ⟨rfl, hb6⟩
                      have B6 := Lib.hid (show Below w5.heap.size w5 w6 from ((Below.refl _ w5).drew).trans hb6)
                      clear hb6 HG1
                      go_wp2_with fail
                      refine (HSZ.out _ B6.out).mono ?_
                      rintro r w7 ⟨rfl, hb7⟩
                      have B7 := Lib.hid (up2 B6.out hb7)
                      clear hb7
                      go_wp2_with fail
                      refine (HG2.out _ B7.out).mono ?_
                      rintro r w8 ⟨rfl, hb8⟩
                      have B8 := Lib.hid (up2 B7.out hb8)
                      have S8 := Lib.hid (S5.out.up B8.out)
                      clear hb8 HG2
                      have aC := HC.out w8 S8.out.bl
                      have a0 := aC.c0
                      have a1 := aC.c1
                      have a2 := aC.c2
                      have a3 := aC.c3
                      have a4 := aC.c4
                      have a5 := aC.c5
                      have a6 := aC.c6
                      have a7 := aC.c7
                      have a8 := aC.c8
                      have a9 := aC.c9
                      have a10 := aC.c10
                      clear aC
                      simp only at a0 a1 a2 a3 a4 a5 a6 a7 a8 a9 a10
                      go_wp2_with fail
                      refine (HDO.out w8 S8.out).mono ?_
                      rintro r w9 ⟨rfl, ho9, hp9⟩
                      have S9 := Lib.hid (S8.out.next ⟨ho9, hp9⟩)
                      clear ho9 hp9 HDO a0 a1 a2 a3 a4 a5 a6 a7 a8 a9 a10
                      have a5 : w9.cell? ⟨g, o2 + i * 11 + 5, none⟩ = some (.string etx) := (HC.out w9 S9.out.bl).c5
                      go_wp2_with fail
                      have HVL := Lib.hid (show Calls Tryz.prog 7 #[.string etx] w9 fun e w' => e = .returned (.bool true) ∧ Below w9.heap.size w9 w' from by
                        have q := rvalid_any etx w9 (by first | (have := HTS.out; omega) | decide)
                        rw [vld_chars] at q
                        have hvv := HV.out
                        rw [hvv] at q; exact q)
                      refine HVL.out.mono ?_
                      rintro r w10 ⟨rfl, hb10⟩
                      have S10 := Lib.hid (S9.out.up hb10)
                      clear hb10 HVL S9
                      go_wp2_with fail
                      obtain ⟨mm, hmm⟩ : ∃ mm : Nat, mm = (chrs etx).length := ⟨_, rfl⟩
                      have HMM := Lib.hid (show lenR etx = mm from hmm.symm)
                      have HMZ := Lib.hid (show mm ≤ 60 by have := chrs_len etx; have := HTS.out; omega)
                      have HMC := Lib.hid hmm
                      clear hmm
                      have HWT := Lib.hid (show T2.S.pt = pt by rw [HT2.out]; rw [repT_pt, ← HMC.out, ← HP.out]; unfold insN delN; have := hpe.out; have := hn3000.out; have := HNn.out; have := HXY.out; have := HCS.out; simp only [Bool.false_eq_true, and_false, or_false]; (repeat' split) <;> omega)
                      have HLN := Lib.hid (show Calls Tryz.prog 14 #[.string etx] w10 fun e w' => e = .returned (.int .i64 (mm : Int)) ∧ Below w10.heap.size w10 w' from by
                        have q := rlen_any etx w10 (by first | (have := HTS.out; omega) | decide)
                        rw [HMM.out] at q; exact q)
                      refine HLN.out.mono ?_
                      rintro r w11 ⟨rfl, hb11⟩
                      have S11 := Lib.hid (S10.out.up hb11)
                      clear hb11 HLN S10
                      have q1 : decide (((y : Nat) : Int) ≤ ((pt : Nat) : Int)) = false := decide_eq_false (by have := HCS.out; omega)
                      have q2 : (((y : Nat) : Int) ≤ ((pt : Nat) : Int)) = False := eq_false (by have := HCS.out; omega)
                      have q3 : (y ≤ pt) = False := eq_false (by have := HCS.out; omega)
                      have p1 : decide (((x : Nat) : Int) < ((pt : Nat) : Int)) = false := decide_eq_false (by have := HCS.out; omega)
                      have p2 : (((x : Nat) : Int) < ((pt : Nat) : Int)) = False := eq_false (by have := HCS.out; omega)
                      have p3 : (x < pt) = False := eq_false (by have := HCS.out; omega)
                      obtain ⟨al, hal⟩ : ∃ al, al = encS T2.cs := ⟨_, rfl⟩
                      have hcat : hd ++ etx ++ tl = al := by
                        rw [hal, HT2.out, Hhd.out, Htl.out, HNn.out.2, HNn.out.1]
                        exact (by have q := parts_rep T (s := etx) (show 1 ≤ x by have := HXY.out; omega) (show x ≤ y by have := HXY.out; omega) (show y ≤ T.cs.length + 1 by have := HXY.out; have := HNn.out; omega) HV.out; rw [← q]; unfold head3 tail3 textV; rw [if_pos (reach_iff.2 (by rw [HW.out.2.1.lo, HW.out.2.1.hi]; have := hpe.out; have := HNn.out; have := HXY.out; have := HP.out; omega)), if_pos (reach_iff.2 (by rw [HW.out.2.1.lo, HW.out.2.1.hi]; have := hpe.out; have := HNn.out; have := HXY.out; have := HP.out; omega))]; rfl)
                      obtain ⟨h2, hh2⟩ : ∃ h2, hd ++ etx = h2 := ⟨_, rfl⟩
                      rw [hh2] at hcat
                      have hz1 : hd.size ≤ 20000 := by rw [Hhd.out]; exact textV_le hn3000.out _ _
                      have hz2 : tl.size ≤ 20000 := by rw [Htl.out]; exact textV_le hn3000.out _ _
                      have htz : (etx : ByteArray).size ≤ 60 := by first | exact HTS.out | decide
                      have hz3 : h2.size ≤ 20060 := by rw [← hh2, ByteArray.size_append]; omega
                      have hs1 : hd.size + (etx : ByteArray).size ≤ 9223372036854775807 := by omega
                      have hs2 : h2.size + tl.size ≤ 9223372036854775807 := by omega
                      have eal2 : (al.toList == al.toList) = true := by simp
                      have HAL := Lib.hid (show Calls Tryz.prog 9 #[pAt b] w11 fun r w' => r = .returned (.string al) ∧ Below w11.heap.size w11 w' from by
                        have q := pAll S11.out.pb
                        rw [← hal] at q; exact q)
                      clear hal hz1 hz2 hz3 htz est
                      go_wp2_with fail
                      refine HAL.out.mono ?_
                      rintro r w12 ⟨rfl, hb12⟩
                      have S12 := Lib.hid (S11.out.up hb12)
                      clear hb12 HAL S11
                      go_wp2_with fail
                      have hpo := bpoint S12.out.pb.r
                      rw [HWT.out] at hpo
                      refine hpo.mono ?_
                      rintro r w13 ⟨rfl, hw13⟩
                      have S13 := Lib.hid (hw13 ▸ S12.out)
                      clear hpo S12 hw13
                      go_wp2_with fail
                      go_roundw
                      case rel =>
                        refine ⟨i + 1, by have := HII.out; omega, by first | rfl | go_num, T2, _, ⟨S13.out, by have := HW.out.1; have := hn3000.out; have := HBB.out; omega, ?_, ?_⟩⟩
                        · rw [HT2.out]; exact HW.out.2.1.rep (by have := HXY.out; omega) (by have := HXY.out; omega) (by have := HXY.out; have := HNn.out; omega)
                        · rw [HT2.out]; unfold repT; rw [putT_cs, insC_len, takeT_len (by have := HXY.out; omega) (by have := HXY.out; omega) (by have := HXY.out; have := HNn.out; omega)]; have := HW.out.2.2; have := chrs_len etx; have := HTS.out; omega
                      case measure => have := HII.out; simp [int2]; omega
                case neg =>
                  have HV := Lib.hid hv
                  clear hv
                  have hE1 : delE T 1 (x : Int) = 0 := by unfold delE; rw [if_pos (reach_iff.2 (by rw [HW.out.2.1.lo, HW.out.2.1.hi]; have := hpe.out; have := HNn.out; have := HXY.out; have := HP.out; omega))]
                  have hE2 : delE T (y : Int) (n1 : Int) = 0 := by unfold delE; rw [if_pos (reach_iff.2 (by rw [HW.out.2.1.lo, HW.out.2.1.hi]; have := hpe.out; have := HNn.out; have := HXY.out; have := HP.out; omega))]
                  have hEE : repE T (x : Int) (y : Int) etx = 5 := by unfold repE; rw [if_pos (reach_iff.2 (by rw [HW.out.2.1.lo, HW.out.2.1.hi]; have := hpe.out; have := HNn.out; have := HXY.out; have := HP.out; omega)), fits_short (by have := hn3000.out; omega) HTS.out (by have := HXY.out; omega), if_neg HV.out]
                  have le1 : decide ((x : Int) ≤ (y : Int)) = true := decide_eq_true (by have := HXY.out; omega)
                  have le2 : ((x : Int) ≤ (y : Int)) = True := eq_true (by have := HXY.out; omega)
                  have le3 : (x ≤ y) = True := eq_true (by have := HXY.out; omega)
                  obtain ⟨hd, hhd⟩ : ∃ hd, hd = textV T 1 (x : Int) := ⟨_, rfl⟩
                  obtain ⟨tl, htl⟩ : ∃ tl, tl = textV T (y : Int) (n1 : Int) := ⟨_, rfl⟩
                  have HG1 := Lib.hid (show ∀ W, Below w5.heap.size w5 W → Calls Tryz.prog 11 #[pAt b, .int .i64 1, .int .i64 (x : Int)] W fun r w' => r = .returned (.tuple #[.string hd, .int .i64 0]) ∧ Below W.heap.size W w' from fun W hb => by
                    have q := pText (S5.out.pb.up hb) 1 (x : Int)
                    rw [hE1, ← hhd] at q; exact q)
                  have HG2 := Lib.hid (show ∀ W, Below w5.heap.size w5 W → Calls Tryz.prog 11 #[pAt b, .int .i64 (y : Int), .int .i64 (n1 : Int)] W fun r w' => r = .returned (.tuple #[.string tl, .int .i64 0]) ∧ Below W.heap.size W w' from fun W hb => by
                    have q := pText (S5.out.pb.up hb) (y : Int) (n1 : Int)
                    rw [hE2, ← htl] at q; exact q)
                  have HSZ := Lib.hid (show ∀ W, Below w5.heap.size w5 W → Calls Tryz.prog 12 #[pAt b] W fun r w' => r = .returned (.int .i64 (n : Int)) ∧ Below W.heap.size W w' from fun W hb => by
                    have q := bsize (S5.out.pb.up hb).r
                    rw [← HNn.out.1] at q; exact q)
                  have Hhd := Lib.hid hhd
                  have Htl := Lib.hid htl
                  obtain ⟨T2, hT2⟩ : ∃ T2 : Tx, T2 = T := ⟨_, rfl⟩
                  obtain ⟨BB, hBB⟩ : ∃ BB : Nat, BB = B + T.cs.length + 8 := ⟨_, rfl⟩
                  have HBB := Lib.hid hBB
                  have HDO := Lib.hid (show ∀ W, St N w1 w1.heap.size b W T B → Calls Tryz.prog 13 #[pAt b, actV (⟨ek, (x : Int), (y : Int), eid, enm, etx, eon, eal, evk, evn, esA, esp, esc⟩ : AcE)] W (DoP N W b (fun k => w1.heap.size ≤ k) 5 T2 BB) from fun W hS => by
                    have q := do_rep6 (e := (⟨ek, (x : Int), (y : Int), eid, enm, etx, eon, eal, evk, evn, esA, esp, esc⟩ : AcE)) (hS.tabs hN1.out (Nat.le_refl _) T1.out) (hS.rules hN1.out (Nat.le_refl _) R1.out) hS.pb (fun k hk => Nat.le_trans hN1.out hk) (by have := HW.out.1; have := HII.out.2; omega) HW.out.2.1.ro HTS.out (HK.out.symm)
                    rw [hEE] at q
                    first | rw [if_pos rfl] at q | rw [if_neg (by decide)] at q
                    try simp only [← HK.out] at q
                    try simp only [Int.toNat_natCast] at q
                    rw [← hBB, ← hT2] at q
                    exact q)
                  have HT2 := Lib.hid hT2
                  clear hhd htl hT2 hBB hE1 hE2 hEE
                  have a1 := (HC.out w5 S5.out.bl).c1
                  have a2 := (HC.out w5 S5.out.bl).c2
                  go_wp2_with fail
                  go_region
                  go_wp2_with fail
                  clear a1 a2
                  refine (HG1.out _ (Below.refl _ w5).drew).mono ?_
                  rintro r w6 ⟨rfl, hb6⟩
                  have B6 := Lib.hid (show Below w5.heap.size w5 w6 from ((Below.refl _ w5).drew).trans hb6)
                  clear hb6 HG1
                  go_wp2_with fail
                  refine (HSZ.out _ B6.out).mono ?_
                  rintro r w7 ⟨rfl, hb7⟩
                  have B7 := Lib.hid (up2 B6.out hb7)
                  clear hb7
                  go_wp2_with fail
                  refine (HG2.out _ B7.out).mono ?_
                  rintro r w8 ⟨rfl, hb8⟩
                  have B8 := Lib.hid (up2 B7.out hb8)
                  have S8 := Lib.hid (S5.out.up B8.out)
                  clear hb8 HG2
                  have aC := HC.out w8 S8.out.bl
                  have a0 := aC.c0
                  have a1 := aC.c1
                  have a2 := aC.c2
                  have a3 := aC.c3
                  have a4 := aC.c4
                  have a5 := aC.c5
                  have a6 := aC.c6
                  have a7 := aC.c7
                  have a8 := aC.c8
                  have a9 := aC.c9
                  have a10 := aC.c10
                  clear aC
                  simp only at a0 a1 a2 a3 a4 a5 a6 a7 a8 a9 a10
                  go_wp2_with fail
                  refine (HDO.out w8 S8.out).mono ?_
                  rintro r w9 ⟨rfl, ho9, hp9⟩
                  have S9 := Lib.hid (S8.out.next ⟨ho9, hp9⟩)
                  clear ho9 hp9 HDO a0 a1 a2 a3 a4 a5 a6 a7 a8 a9 a10
                  have a5 : w9.cell? ⟨g, o2 + i * 11 + 5, none⟩ = some (.string etx) := (HC.out w9 S9.out.bl).c5
                  go_wp2_with fail
                  have HVL := Lib.hid (show Calls Tryz.prog 7 #[.string etx] w9 fun e w' => e = .returned (.bool false) ∧ Below w9.heap.size w9 w' from by
                    have q := rvalid_any etx w9 (by first | (have := HTS.out; omega) | decide)
                    rw [vld_chars] at q
                    have hvv : (charsD etx.data.toList).isSome = false := by simpa using HV.out
                    rw [hvv] at q; exact q)
                  refine HVL.out.mono ?_
                  rintro r w10 ⟨rfl, hb10⟩
                  have S10 := Lib.hid (S9.out.up hb10)
                  clear hb10 HVL S9
                  go_wp2_with fail
                  rw [HT2.out] at S10
                  have hal := pAll S10.out.pb
                  rw [← HST.out] at hal
                  refine hal.mono ?_
                  rintro r w11 ⟨rfl, hb11⟩
                  have S11 := Lib.hid (S10.out.up hb11)
                  clear hb11 hal S10
                  go_wp2_with fail
                  have hpo := bpoint S11.out.pb.r
                  rw [← HP.out] at hpo
                  refine hpo.mono ?_
                  rintro r w12 ⟨rfl, hw12⟩
                  have S12 := Lib.hid (hw12 ▸ S11.out)
                  clear hpo S11 hw12
                  go_wp2_with fail
                  go_roundw
                  case rel => exact ⟨i + 1, by have := HII.out; omega, by first | rfl | go_num, T, _, ⟨S12.out, by have := HW.out.1; have := hn3000.out; have := HBB.out; omega, HW.out.2.1, by have := HW.out.2.2; omega⟩⟩
                  case measure => have := HII.out; simp [int2]; omega
    · as_aux_lemma =>
        by_cases hq : 1 ≤ ea ∧ ea ≤ (n : Int) + 1
        case pos =>
          have HK3 := Lib.hid hk3
          have hK8 : K ≤ 8 := by omega
          have kf0 : ((K : Int) == 3) = false := by rw [beq_eq_false_iff_ne]; omega
          have kg0 : ((K : Int) = 3) = False := eq_false (by omega)
          have kf1 : decide ((3 : Int) < K) = true := decide_eq_true (by omega)
          have kg1 : ((3 : Int) < K) = True := eq_true (by omega)
          have kf2 : decide ((K : Int) < 7) = false := decide_eq_false (by omega)
          have kg2 : ((K : Int) < 7) = False := eq_false (by omega)
          have kf3 : ((K : Int) == 4) = false := by rw [beq_eq_false_iff_ne]; omega
          have kg3 : ((K : Int) = 4) = False := eq_false (by omega)
          have kf4 : ((K : Int) == 5) = false := by rw [beq_eq_false_iff_ne]; omega
          have kg4 : ((K : Int) = 5) = False := eq_false (by omega)
          have kf5 : decide ((6 : Int) < K) = true := decide_eq_true (by omega)
          have kg5 : ((6 : Int) < K) = True := eq_true (by omega)
          have kf6 : decide ((8 : Int) < K) = false := decide_eq_false (by omega)
          have kg6 : ((8 : Int) < K) = False := eq_false (by omega)
          clear hk3 hK8
          have HXY := Lib.hid hq
          clear hq
          have hE1 : delE T 1 (pt : Int) = 0 := by unfold delE; rw [if_pos (reach_iff.2 (by rw [HW.out.2.1.lo, HW.out.2.1.hi]; have := hpe.out; have := HNn.out; have := HXY.out; have := HP.out; omega))]
          have hE2 : delE T (pt : Int) (n1 : Int) = 0 := by unfold delE; rw [if_pos (reach_iff.2 (by rw [HW.out.2.1.lo, HW.out.2.1.hi]; have := hpe.out; have := HNn.out; have := HXY.out; have := HP.out; omega))]
          have hEE : delE T ea ea = 0 := by unfold delE; rw [if_pos (reach_iff.2 (by rw [HW.out.2.1.lo, HW.out.2.1.hi]; have := hpe.out; have := HNn.out; have := HXY.out; have := HP.out; omega))]
          obtain ⟨hd, hhd⟩ : ∃ hd, hd = textV T 1 (pt : Int) := ⟨_, rfl⟩
          obtain ⟨tl, htl⟩ : ∃ tl, tl = textV T (pt : Int) (n1 : Int) := ⟨_, rfl⟩
          have HG1 := Lib.hid (show ∀ W, Below w5.heap.size w5 W → Calls Tryz.prog 11 #[pAt b, .int .i64 1, .int .i64 (pt : Int)] W fun r w' => r = .returned (.tuple #[.string hd, .int .i64 0]) ∧ Below W.heap.size W w' from fun W hb => by
            have q := pText (S5.out.pb.up hb) 1 (pt : Int)
            rw [hE1, ← hhd] at q; exact q)
          have HG2 := Lib.hid (show ∀ W, Below w5.heap.size w5 W → Calls Tryz.prog 11 #[pAt b, .int .i64 (pt : Int), .int .i64 (n1 : Int)] W fun r w' => r = .returned (.tuple #[.string tl, .int .i64 0]) ∧ Below W.heap.size W w' from fun W hb => by
            have q := pText (S5.out.pb.up hb) (pt : Int) (n1 : Int)
            rw [hE2, ← htl] at q; exact q)
          have HSZ := Lib.hid (show ∀ W, Below w5.heap.size w5 W → Calls Tryz.prog 12 #[pAt b] W fun r w' => r = .returned (.int .i64 (n : Int)) ∧ Below W.heap.size W w' from fun W hb => by
            have q := bsize (S5.out.pb.up hb).r
            rw [← HNn.out.1] at q; exact q)
          have Hhd := Lib.hid hhd
          have Htl := Lib.hid htl
          obtain ⟨T2, hT2⟩ : ∃ T2 : Tx, T2 = { T with S := { T.S with pt := ea.toNat } } := ⟨_, rfl⟩
          obtain ⟨BB, hBB⟩ : ∃ BB : Nat, BB = B := ⟨_, rfl⟩
          have HBB := Lib.hid hBB
          have HDO := Lib.hid (show ∀ W, St N w1 w1.heap.size b W T B → Calls Tryz.prog 13 #[pAt b, actV (⟨ek, ea, eb, eid, enm, etx, eon, eal, evk, evn, esA, esp, esc⟩ : AcE)] W (DoP N W b (fun k => w1.heap.size ≤ k) 0 T2 BB) from fun W hS => by
            have q := do_goto (e := (⟨ek, ea, eb, eid, enm, etx, eon, eal, evk, evn, esA, esp, esc⟩ : AcE)) (hS.tabs hN1.out (Nat.le_refl _) T1.out) (hS.rules hN1.out (Nat.le_refl _) R1.out) hS.pb (fun k hk => Nat.le_trans hN1.out hk) (by have := HW.out.1; have := HII.out.2; omega) HW.out.2.1.ro HTS.out (by rw [← HK.out]; exact HK3.out)
            rw [hEE] at q
            first | rw [if_pos rfl] at q | rw [if_neg (by decide)] at q
            try simp only [← HK.out] at q
            try simp only [Int.toNat_natCast] at q
            rw [← hBB, ← hT2] at q
            exact q)
          have HT2 := Lib.hid hT2
          clear hhd htl hT2 hBB hE1 hE2 hEE
          go_wp2_with fail
          refine (HG1.out _ (Below.refl _ w5)).mono ?_
          rintro r w6 ⟨rfl, hb6⟩
          have B6 := Lib.hid hb6
          clear hb6 HG1
          go_wp2_with fail
          refine (HSZ.out _ B6.out).mono ?_
          rintro r w7 ⟨rfl, hb7⟩
          have B7 := Lib.hid (up2 B6.out hb7)
          clear hb7
          go_wp2_with fail
          refine (HG2.out _ B7.out).mono ?_
          rintro r w8 ⟨rfl, hb8⟩
          have B8 := Lib.hid (up2 B7.out hb8)
          have S8 := Lib.hid (S5.out.up B8.out)
          clear hb8 HG2
          have aC := HC.out w8 S8.out.bl
          have a0 := aC.c0
          have a1 := aC.c1
          have a2 := aC.c2
          have a3 := aC.c3
          have a4 := aC.c4
          have a5 := aC.c5
          have a6 := aC.c6
          have a7 := aC.c7
          have a8 := aC.c8
          have a9 := aC.c9
          have a10 := aC.c10
          clear aC
          simp only at a0 a1 a2 a3 a4 a5 a6 a7 a8 a9 a10
          go_wp2_with fail
          refine (HDO.out w8 S8.out).mono ?_
          rintro r w9 ⟨rfl, ho9, hp9⟩
          have S9 := Lib.hid (S8.out.next ⟨ho9, hp9⟩)
          clear ho9 hp9 HDO a0 a1 a2 a3 a4 a5 a6 a7 a8 a9 a10
          have a5 : w9.cell? ⟨g, o2 + i * 11 + 5, none⟩ = some (.string etx) := (HC.out w9 S9.out.bl).c5
          go_wp2_with fail
          have HVL := Lib.hid (show Calls Tryz.prog 7 #[.string (⟨#[]⟩ : ByteArray)] w9 fun e w' => e = .returned (.bool true) ∧ Below w9.heap.size w9 w' from by
            have q := rvalid_any (⟨#[]⟩ : ByteArray) w9 (by first | (have := HTS.out; omega) | decide)
            rw [vld_chars] at q
            have hvv : (charsD (ByteArray.mk #[]).data.toList).isSome = true := rfl
            rw [hvv] at q; exact q)
          refine HVL.out.mono ?_
          rintro r w10 ⟨rfl, hb10⟩
          have S10 := Lib.hid (S9.out.up hb10)
          clear hb10 HVL S9
          go_wp2_with fail
          have a1 := fun (X : UpW w10.heap.size w10) => (HC.out X.w (S10.out.bl.trans (X.up.mono S10.out.sz))).c1
          simp only at a1
          have HAL := Lib.hid (show ∀ W, Below w10.heap.size w10 W → Calls Tryz.prog 9 #[pAt b] W fun r w' => r = .returned (.string st) ∧ Below W.heap.size W w' from fun W hb => by
            have q := pAll (S10.out.pb.up hb)
            rw [HT2.out] at q
            rw [HST.out]; exact q)
          have HPO := Lib.hid (show ∀ W, Below w10.heap.size w10 W → Calls Tryz.prog 10 #[pAt b] W fun r w' => r = .returned (.int .i64 ea) ∧ Below W.heap.size W w' from fun W hb => by
            have q := bpoint (S10.out.pb.up hb).r
            rw [HT2.out] at q
            exact q.mono fun r w' ⟨h1, h2⟩ => ⟨by rw [h1]; show Ending.returned (.int .i64 ((ea.toNat : Nat) : Int)) = _; rw [Int.toNat_of_nonneg (by have := HXY.out; omega)], h2 ▸ Below.refl _ _⟩)
          have HSY := Lib.hid (show ∀ W, Below w10.heap.size w10 W → Calls Tryz.prog 12 #[pAt b] W fun r w' => r = .returned (.int .i64 (n : Int)) ∧ Below W.heap.size W w' from fun W hb => by
            have q := bsize (S10.out.pb.up hb).r
            rw [HT2.out] at q
            rw [HNn.out.1]; exact q)
          have le1 : decide ((1 : Int) ≤ ea) = true := decide_eq_true (by have := HXY.out; omega)
          have le2 : ((1 : Int) ≤ ea) = True := eq_true (by have := HXY.out; omega)
          have le3 : decide (ea ≤ (n1 : Int)) = true := decide_eq_true (by have := HXY.out; have := HNn.out; omega)
          have le4 : (ea ≤ (n1 : Int)) = True := eq_true (by have := HXY.out; have := HNn.out; omega)
          refine wp_region_up w10.heap.size (by kernel_rfl) (by kernel_rfl) ?_
          repeat (go_big_quiet_step (first | exact Calls.up ‹_› (Nat.le_refl _) (HAL.out _ (UpW.up ‹_›)) | exact Calls.up ‹_› (Nat.le_refl _) (HPO.out _ (UpW.up ‹_›)) | exact Calls.up ‹_› (Nat.le_refl _) (HSY.out _ (UpW.up ‹_›))))
          refine wpQuiet_nil ?_
          rintro ⟨w11, hb11⟩
          dsimp only
          have S11 := Lib.hid (S10.out.up hb11)
          clear a1 HAL HPO HSY S10 hb11
          go_wp2_with fail
          go_roundw
          case rel => exact ⟨i + 1, by have := HII.out; omega, by first | rfl | go_num, T2, _, ⟨S11.out, by have := HW.out.1; have := hn3000.out; have := HBB.out; omega, by rw [HT2.out]; first | exact HW.out.2.1 | exact HW.out.2.1.pt _, by rw [HT2.out]; have := HW.out.2.2; (try dsimp only); omega⟩⟩
          case measure => have := HII.out; simp [int2]; omega
        case neg =>
          have HK3 := Lib.hid hk3
          have hK8 : K ≤ 8 := by omega
          have kf0 : ((K : Int) == 3) = false := by rw [beq_eq_false_iff_ne]; omega
          have kg0 : ((K : Int) = 3) = False := eq_false (by omega)
          have kf1 : decide ((3 : Int) < K) = true := decide_eq_true (by omega)
          have kg1 : ((3 : Int) < K) = True := eq_true (by omega)
          have kf2 : decide ((K : Int) < 7) = false := decide_eq_false (by omega)
          have kg2 : ((K : Int) < 7) = False := eq_false (by omega)
          have kf3 : ((K : Int) == 4) = false := by rw [beq_eq_false_iff_ne]; omega
          have kg3 : ((K : Int) = 4) = False := eq_false (by omega)
          have kf4 : ((K : Int) == 5) = false := by rw [beq_eq_false_iff_ne]; omega
          have kg4 : ((K : Int) = 5) = False := eq_false (by omega)
          have kf5 : decide ((6 : Int) < K) = true := decide_eq_true (by omega)
          have kg5 : ((6 : Int) < K) = True := eq_true (by omega)
          have kf6 : decide ((8 : Int) < K) = false := decide_eq_false (by omega)
          have kg6 : ((8 : Int) < K) = False := eq_false (by omega)
          clear hk3 hK8
          have HXY := Lib.hid hq
          clear hq
          have hE1 : delE T 1 (pt : Int) = 0 := by unfold delE; rw [if_pos (reach_iff.2 (by rw [HW.out.2.1.lo, HW.out.2.1.hi]; have := hpe.out; have := HNn.out; have := HXY.out; have := HP.out; omega))]
          have hE2 : delE T (pt : Int) (n1 : Int) = 0 := by unfold delE; rw [if_pos (reach_iff.2 (by rw [HW.out.2.1.lo, HW.out.2.1.hi]; have := hpe.out; have := HNn.out; have := HXY.out; have := HP.out; omega))]
          have hEE : delE T ea ea = 3 := by unfold delE; rw [if_neg (fun q => by have q := reach_iff.1 q; rw [HW.out.2.1.lo, HW.out.2.1.hi] at q; have := HNn.out; have := HXY.out; omega)]
          obtain ⟨hd, hhd⟩ : ∃ hd, hd = textV T 1 (pt : Int) := ⟨_, rfl⟩
          obtain ⟨tl, htl⟩ : ∃ tl, tl = textV T (pt : Int) (n1 : Int) := ⟨_, rfl⟩
          have HG1 := Lib.hid (show ∀ W, Below w5.heap.size w5 W → Calls Tryz.prog 11 #[pAt b, .int .i64 1, .int .i64 (pt : Int)] W fun r w' => r = .returned (.tuple #[.string hd, .int .i64 0]) ∧ Below W.heap.size W w' from fun W hb => by
            have q := pText (S5.out.pb.up hb) 1 (pt : Int)
            rw [hE1, ← hhd] at q; exact q)
          have HG2 := Lib.hid (show ∀ W, Below w5.heap.size w5 W → Calls Tryz.prog 11 #[pAt b, .int .i64 (pt : Int), .int .i64 (n1 : Int)] W fun r w' => r = .returned (.tuple #[.string tl, .int .i64 0]) ∧ Below W.heap.size W w' from fun W hb => by
            have q := pText (S5.out.pb.up hb) (pt : Int) (n1 : Int)
            rw [hE2, ← htl] at q; exact q)
          have HSZ := Lib.hid (show ∀ W, Below w5.heap.size w5 W → Calls Tryz.prog 12 #[pAt b] W fun r w' => r = .returned (.int .i64 (n : Int)) ∧ Below W.heap.size W w' from fun W hb => by
            have q := bsize (S5.out.pb.up hb).r
            rw [← HNn.out.1] at q; exact q)
          have Hhd := Lib.hid hhd
          have Htl := Lib.hid htl
          obtain ⟨T2, hT2⟩ : ∃ T2 : Tx, T2 = T := ⟨_, rfl⟩
          obtain ⟨BB, hBB⟩ : ∃ BB : Nat, BB = B := ⟨_, rfl⟩
          have HBB := Lib.hid hBB
          have HDO := Lib.hid (show ∀ W, St N w1 w1.heap.size b W T B → Calls Tryz.prog 13 #[pAt b, actV (⟨ek, ea, eb, eid, enm, etx, eon, eal, evk, evn, esA, esp, esc⟩ : AcE)] W (DoP N W b (fun k => w1.heap.size ≤ k) 3 T2 BB) from fun W hS => by
            have q := do_goto (e := (⟨ek, ea, eb, eid, enm, etx, eon, eal, evk, evn, esA, esp, esc⟩ : AcE)) (hS.tabs hN1.out (Nat.le_refl _) T1.out) (hS.rules hN1.out (Nat.le_refl _) R1.out) hS.pb (fun k hk => Nat.le_trans hN1.out hk) (by have := HW.out.1; have := HII.out.2; omega) HW.out.2.1.ro HTS.out (by rw [← HK.out]; exact HK3.out)
            rw [hEE] at q
            first | rw [if_pos rfl] at q | rw [if_neg (by decide)] at q
            try simp only [← HK.out] at q
            try simp only [Int.toNat_natCast] at q
            rw [← hBB, ← hT2] at q
            exact q)
          have HT2 := Lib.hid hT2
          clear hhd htl hT2 hBB hE1 hE2 hEE
          go_wp2_with fail
          refine (HG1.out _ (Below.refl _ w5)).mono ?_
          rintro r w6 ⟨rfl, hb6⟩
          have B6 := Lib.hid hb6
          clear hb6 HG1
          go_wp2_with fail
          refine (HSZ.out _ B6.out).mono ?_
          rintro r w7 ⟨rfl, hb7⟩
          have B7 := Lib.hid (up2 B6.out hb7)
          clear hb7
          go_wp2_with fail
          refine (HG2.out _ B7.out).mono ?_
          rintro r w8 ⟨rfl, hb8⟩
          have B8 := Lib.hid (up2 B7.out hb8)
          have S8 := Lib.hid (S5.out.up B8.out)
          clear hb8 HG2
          have aC := HC.out w8 S8.out.bl
          have a0 := aC.c0
          have a1 := aC.c1
          have a2 := aC.c2
          have a3 := aC.c3
          have a4 := aC.c4
          have a5 := aC.c5
          have a6 := aC.c6
          have a7 := aC.c7
          have a8 := aC.c8
          have a9 := aC.c9
          have a10 := aC.c10
          clear aC
          simp only at a0 a1 a2 a3 a4 a5 a6 a7 a8 a9 a10
          go_wp2_with fail
          refine (HDO.out w8 S8.out).mono ?_
          rintro r w9 ⟨rfl, ho9, hp9⟩
          have S9 := Lib.hid (S8.out.next ⟨ho9, hp9⟩)
          clear ho9 hp9 HDO a0 a1 a2 a3 a4 a5 a6 a7 a8 a9 a10
          have a5 : w9.cell? ⟨g, o2 + i * 11 + 5, none⟩ = some (.string etx) := (HC.out w9 S9.out.bl).c5
          go_wp2_with fail
          have HVL := Lib.hid (show Calls Tryz.prog 7 #[.string (⟨#[]⟩ : ByteArray)] w9 fun e w' => e = .returned (.bool true) ∧ Below w9.heap.size w9 w' from by
            have q := rvalid_any (⟨#[]⟩ : ByteArray) w9 (by first | (have := HTS.out; omega) | decide)
            rw [vld_chars] at q
            have hvv : (charsD (ByteArray.mk #[]).data.toList).isSome = true := rfl
            rw [hvv] at q; exact q)
          refine HVL.out.mono ?_
          rintro r w10 ⟨rfl, hb10⟩
          have S10 := Lib.hid (S9.out.up hb10)
          clear hb10 HVL S9
          go_wp2_with fail
          have a1 := fun (X : UpW w10.heap.size w10) => (HC.out X.w (S10.out.bl.trans (X.up.mono S10.out.sz))).c1
          simp only at a1
          have HAL := Lib.hid (show ∀ W, Below w10.heap.size w10 W → Calls Tryz.prog 9 #[pAt b] W fun r w' => r = .returned (.string st) ∧ Below W.heap.size W w' from fun W hb => by
            have q := pAll (S10.out.pb.up hb)
            rw [HT2.out] at q
            rw [HST.out]; exact q)
          have HPO := Lib.hid (show ∀ W, Below w10.heap.size w10 W → Calls Tryz.prog 10 #[pAt b] W fun r w' => r = .returned (.int .i64 (pt : Int)) ∧ Below W.heap.size W w' from fun W hb => by
            have q := bpoint (S10.out.pb.up hb).r
            rw [HT2.out] at q
            exact q.mono fun r w' ⟨h1, h2⟩ => ⟨by rw [h1]; rw [← HP.out], h2 ▸ Below.refl _ _⟩)
          have HSY := Lib.hid (show ∀ W, Below w10.heap.size w10 W → Calls Tryz.prog 12 #[pAt b] W fun r w' => r = .returned (.int .i64 (n : Int)) ∧ Below W.heap.size W w' from fun W hb => by
            have q := bsize (S10.out.pb.up hb).r
            rw [HT2.out] at q
            rw [HNn.out.1]; exact q)
          have ne1 : ((pt : Int) == ea) = false := by rw [beq_eq_false_iff_ne]; have := HXY.out; have := hpe.out; omega
          have ne2 : ((pt : Int) = ea) = False := eq_false (by have := HXY.out; have := hpe.out; omega)
          refine wp_region_up w10.heap.size (by kernel_rfl) (by kernel_rfl) ?_
          repeat (go_big_quiet_step (first | exact Calls.up ‹_› (Nat.le_refl _) (HAL.out _ (UpW.up ‹_›)) | exact Calls.up ‹_› (Nat.le_refl _) (HPO.out _ (UpW.up ‹_›)) | exact Calls.up ‹_› (Nat.le_refl _) (HSY.out _ (UpW.up ‹_›))))
          refine wpQuiet_nil ?_
          rintro ⟨w11, hb11⟩
          dsimp only
          have S11 := Lib.hid (S10.out.up hb11)
          clear a1 HAL HPO HSY S10 hb11
          go_wp2_with fail
          go_roundw
          case rel => exact ⟨i + 1, by have := HII.out; omega, by first | rfl | go_num, T2, _, ⟨S11.out, by have := HW.out.1; have := hn3000.out; have := HBB.out; omega, by rw [HT2.out]; first | exact HW.out.2.1 | exact HW.out.2.1.pt _, by rw [HT2.out]; have := HW.out.2.2; (try dsimp only); omega⟩⟩
          case measure => have := HII.out; simp [int2]; omega
end
end Go.Proofs.YtobnmpgfkgoapaaGreatDoor
