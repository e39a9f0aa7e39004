import Derived.Test.YtafdebkamnmheaaGreatDoorJv
/- ColumnLines: the walk. -/
namespace Go.Proofs.YtafdebkamnmheaaGreatDoor
open Go.RowKit
set_option linter.unusedVariables false
set_option linter.unusedSimpArgs false
section
variable {w w' : World} {b pt lo hi : Nat} {cs : List Nat}
theorem bwdN_zero (i : Nat) : bwdN cs lo 0 i = (i, 0) := by simp [bwdN]
def prevC (cs : List Nat) (T : Nat) : Nat := if 2 ≤ T then chr cs (T - 1) else 0
theorem bchar_prev (h : BufR w b cs pt lo hi) (T : Nat) (h1 : 1 ≤ T) (h2 : T ≤ cs.length + 1) : Calls Tryz.prog 15 #[.pointer (some ⟨b, 0, none⟩), .int .i64 ((T : Int) - 1)] w fun e w' => e = .returned (.tuple #[.int .i64 (prevC cs T : Nat), .bool (decide (2 ≤ T))]) ∧ Below w.heap.size w w' := by
  unfold prevC
  by_cases h3 : 2 ≤ T
  · have e : ((T : Int) - 1) = ((T - 1 : Nat) : Int) := by omega
    rw [e, if_pos h3, decide_eq_true h3]
    exact bchar h (T - 1) (by omega) (by omega)
  · rw [if_neg h3, decide_eq_false h3]
    exact bchar_no h _ (.inl (by omega))
theorem lines_rest (h : BufR w b cs pt lo hi) (k n : Nat) (hn : n ≤ 1000000) (h2 : lo ≤ k) (h3 : k ≤ hi) :
    Calls Tryz.prog 14 #[.pointer (some ⟨b, 0, none⟩), .int .i64 k, .int .i64 (-(n : Int))] w fun e w' => e = .returned (.tuple #[.int .i64 (bwdN cs lo n (lineB cs lo k)).1, .int .i64 (bwdN cs lo n (lineB cs lo k)).2, .int .i64 0]) ∧ Below w.heap.size w w' := by
  rcases Nat.eq_zero_or_pos n with h0 | h0
  · subst h0
    have := lines_fwd h k 0 (by omega) h2 h3
    rw [linesF_zero] at this
    rw [bwdN_zero]
    exact this
  · exact lines_back h k n hn h0 h2 h3
end
section
variable {w w' : World}
set_option maxRecDepth 100000 in
set_option maxHeartbeats 8000000 in
theorem clines_true {N : Nat} (hT : Tabs N w) (hR : Rules N w) (hN : N ≤ w.heap.size) (s : ByteArray) (a z av nv : Int) :
    Calls Tryz.prog 4 #[.string s, .int .i64 a, .int .i64 z, .int .i64 av, .int .i64 nv] w fun r w' => r = .returned (.bool true) ∧ Below w.heap.size w w' := by
  have HT := Lib.hid hT
  have HR := Lib.hid hR
  clear hT hR
  go_enter Tryz.func4, Tryz.ntmps4
  go_wp2_with fail
  refine (lives_true HT.out HR.out hN).mono ?_
  rintro e w1 ⟨rfl, hb1⟩
  have B1 := Lib.hid hb1
  clear hb1
  go_wp2_with fail
  refine (light_ok s w1).mono ?_
  rintro e w2 ⟨rfl, hb2⟩
  have B2 := Lib.hid (up2 B1.out hb2)
  have z2 := (up2 B1.out hb2).size
  clear hb2
  cases hli : lightB s with
  | false =>
    go_wp2_with fail
    go_ret
    exact ⟨rfl, B2.out⟩
  | true =>
    unfold lightB at hli
    simp only [Bool.and_eq_true, decide_eq_true_eq] at hli
    obtain ⟨hsz, hv⟩ := hli
    rw [vld_chars] at hv
    have hlen := chrs_len s
    go_wp2_with fail
    refine (pair_ok ((HT.out.up B2.out).low hN) ((HR.out.up B2.out).low hN) (by omega) s (by omega) hv a z).mono ?_
    rintro e w3 ⟨b, rb, g, S, rfl, hb3, hbt⟩
    have hr := hbt.r
    obtain ⟨cs, hcs⟩ : ∃ cs, cs = chrs s := ⟨_, rfl⟩
    rw [← hcs] at hr hlen
    have B3 := Lib.hid (up2 B2.out hb3)
    clear hb3 hbt hcs hv HT HR z2 hN
    generalize S.lo = lo at *
    generalize S.hi = hi at *
    generalize S.pt = pt at *
    have hl := hr.len
    obtain ⟨Lo, hLo⟩ : ∃ x : Int, x = (lo : Int) := ⟨_, rfl⟩
    obtain ⟨Hi, hHi⟩ : ∃ x : Int, x = (hi : Int) := ⟨_, rfl⟩
    have hrch := breach hr
    rw [← hLo, ← hHi] at hrch
    obtain ⟨q1, q2⟩ := pick_pos av (Hi + 1 - Lo) (by omega)
    obtain ⟨q3, q4⟩ := pick_pos nv 20 (by omega)
    have k1 := fun w => pick_any av (Hi + 1 - Lo) w (by omega) (by omega)
    have k2 := fun w => pick_any nv 20 w (by omega) (by omega)
    generalize pickI av (Hi + 1 - Lo) = p1 at *
    generalize pickI nv 20 = C at *
    obtain ⟨A, hA⟩ : ∃ x : Int, x = Lo + p1 := ⟨_, rfl⟩
    have s1 : IntKind.i64.wrap (Hi + 1) = Hi + 1 := IntWalk.i64_in _ (by omega)
    have s2 : IntKind.i64.wrap (Hi + 1 - Lo) = Hi + 1 - Lo := IntWalk.i64_in _ (by omega)
    have s3 : IntKind.i64.wrap (Lo + p1) = A := by rw [hA]; exact IntWalk.i64_in _ (by omega)
    obtain ⟨k, hk⟩ : ∃ k : Nat, A = (k : Int) := ⟨A.toNat, by omega⟩
    obtain ⟨n, hn⟩ : ∃ k : Nat, C = (k : Int) := ⟨C.toNat, by omega⟩
    subst hk hn
    have h1 : lo ≤ k := by omega
    have h2 : k ≤ hi := by omega
    have h3 : n ≤ 19 := by omega
    have b1 : lo ≤ lineB cs lo k := lineB_ge k
    have b2 : lineB cs lo k ≤ k := lineB_le k h1
    have EQ := Lib.hid (⟨hA, hLo, hHi⟩ : _ ∧ _ ∧ _)
    have NE := Lib.hid (⟨h1, h2, h3, b1, b2⟩ : _ ∧ _ ∧ _ ∧ _ ∧ _)
    have PB := Lib.hid (⟨q1, q2, q3, q4⟩ : _ ∧ _ ∧ _ ∧ _)
    have HL := Lib.hid hl
    have HRR := Lib.hid hr
    have RC := Lib.hid hrch
    have K1 := Lib.hid k1
    have K2 := Lib.hid k2
    clear hA hLo hHi h1 h2 h3 b1 b2 q1 q2 q3 q4 hl hlen hsz hrch k1 k2 hr
    go_wp2_with fail
    refine RC.out.mono ?_
    rintro e w4 ⟨rfl, hb4⟩
    have B4 := Lib.hid hb4
    clear hb4
    go_wp2_with fail
    refine (K1.out w4).mono ?_
    rintro e w5 ⟨rfl, rfl⟩
    go_wp2_with fail
    refine (K2.out w4).mono ?_
    rintro e w5 ⟨rfl, rfl⟩
    go_wp2_with fail
    refine (lines_fwd (HRR.out.up B4.out) k n (by have := NE.out; omega) (by have := NE.out; omega) (by have := NE.out; omega)).mono ?_
    rintro e w5 ⟨rfl, hb5⟩
    have B5 := Lib.hid (up2 B4.out hb5)
    clear hb5
    obtain ⟨T, L, hTL⟩ : ∃ T L, linesF cs lo hi n k = (T, L) := ⟨_, _, rfl⟩
    rw [hTL]
    go_wp2_with fail
    refine (begin_ok (HRR.out.up B5.out) k (by have := NE.out; omega) (by have := NE.out; omega)).mono ?_
    rintro e w6 ⟨rfl, hb6⟩
    have B6 := Lib.hid (up2 B5.out hb6)
    clear hb6
    obtain ⟨h1, h2, h3, b1, b2⟩ := NE.out
    obtain ⟨hA, hLo, hHi⟩ := EQ.out
    have hTL2 : L ≤ n ∧ lo ≤ T ∧ T ≤ hi := by
      rcases Nat.eq_zero_or_pos n with h0 | h0
      · subst h0
        rw [linesF_zero] at hTL
        obtain ⟨rfl, rfl⟩ := Prod.mk.inj hTL
        exact ⟨Nat.le_refl _, b1, by omega⟩
      · obtain ⟨g1, g2, g3, _⟩ := linesF_is n k T L h0 h1 h2 hTL
        exact ⟨g1, by omega, g3⟩
    have f1 : decide ((L : Int) < 0) = false := decide_eq_false (by omega)
    have f2 : decide ((n : Int) < L) = false := decide_eq_false (by omega)
    have n2 : (n < L) = False := eq_false (by omega)
    have f3 : decide ((T : Int) < Lo) = false := decide_eq_false (by omega)
    have f4 : decide (Hi < (T : Int)) = false := decide_eq_false (by omega)
    have TLq := Lib.hid hTL2
    have TLe := Lib.hid hTL
    clear h1 h2 h3 b1 b2 hA hLo hHi hTL2 hTL
    go_wp2_with fail
    clear f1 f2 f3 f4 n2
    have KB : Hid (k ≤ 1000001 ∧ T ≤ 1000001) := Lib.hid (by have := HL.out; have := TLq.out; have := NE.out; omega)
    go_loopw [21, 22, 23, 24] (fun vf vi vc vg wr => ∃ i F : Nat, min k T ≤ i ∧ i ≤ max k T ∧ F = feedsIn cs (min k T) i ∧ F ≤ i ∧ vi = .int .i64 i ∧ vf = .int .i64 F ∧ Below w3.heap.size w3 wr) (fun _ vi _ _ _ => max k T + 1 - (intOf vi).toNat)
    case atStart => exact ⟨min k T, 0, Nat.le_refl _, by omega, by rw [feedsIn_self], Nat.zero_le _, by first | rfl | go_num, rfl, B6.out⟩
    case round =>
      obtain ⟨i, F, i1, i2, i3, i4, rfl, rfl, hbw⟩ := hrel
      have HBW := Lib.hid hbw
      have kb := KB.out
      clear hbw
      by_cases hlt : i < max k T
      · have d0 : decide ((i : Int) < max (k : Int) T) = true := decide_eq_true (by omega)
        have n0 : (i < max k T) = True := eq_true hlt
        have HC := bchar (HRR.out.up HBW.out) i (by have := HL.out; have := NE.out; have := TLq.out; omega) (by have := HL.out; have := NE.out; have := TLq.out; omega)
        obtain ⟨c, hc⟩ : ∃ c, c = chr cs i := ⟨_, rfl⟩
        rw [← hc] at HC
        have HC := Lib.hid HC
        have HCH := Lib.hid hc
        have s5 : IntKind.i64.wrap ((i : Int) + 1) = ((i + 1 : Nat) : Int) := by rw [IntWalk.i64_in _ (by omega)]; omega
        have s6 : IntKind.i64.wrap ((F : Int) + 1) = ((F + 1 : Nat) : Int) := by rw [IntWalk.i64_in _ (by omega)]; omega
        have HI := Lib.hid (⟨i1, i3, i4, hlt⟩ : _ ∧ _ ∧ _ ∧ _)
        clear hc i1 i2 i3 i4 hlt kb
        by_cases hten : c = 10
        · have d5 : ((c : Int) == (10 : Int)) = true := by rw [hten]; rfl
          have n5 : (c = 10) = True := eq_true hten
          have HTN := Lib.hid hten
          clear hten
          go_wp2_with fail
          refine HC.out.mono ?_
          rintro e u1 ⟨rfl, hu1⟩
          have U1 := Lib.hid (up2 HBW.out hu1)
          clear hu1
          go_wp2_with fail
          go_roundw
          case rel =>
            obtain ⟨i1, i3, i4, hlt⟩ := HI.out
            exact ⟨i + 1, F + 1, by omega, by omega, by rw [feedsIn_succ _ _ i1, ← i3, ← HCH.out, if_pos HTN.out], by omega, by first | rfl | go_num, by first | rfl | go_num, U1.out⟩
          case measure => have := HI.out; simp [intOf]; omega
        · have d5 : ((c : Int) == (10 : Int)) = false := by simp; omega
          have n5 : (c = 10) = False := eq_false hten
          have HTN := Lib.hid hten
          clear hten
          go_wp2_with fail
          refine HC.out.mono ?_
          rintro e u1 ⟨rfl, hu1⟩
          have U1 := Lib.hid (up2 HBW.out hu1)
          clear hu1
          go_wp2_with fail
          go_roundw
          case rel =>
            obtain ⟨i1, i3, i4, hlt⟩ := HI.out
            exact ⟨i + 1, F, by omega, by omega, by rw [feedsIn_succ _ _ i1, ← i3, ← HCH.out, if_neg HTN.out]; rfl, by omega, by first | rfl | go_num, by first | rfl | go_num, U1.out⟩
          case measure => have := HI.out; simp [intOf]; omega
      · have d0 : decide ((i : Int) < max (k : Int) T) = false := decide_eq_false (by omega)
        have n0 : (i < max k T) = False := eq_false hlt
        rcases Nat.eq_zero_or_pos n with hz | hz
        · subst hz
          have hTL := TLe.out
          rw [linesF_zero] at hTL
          obtain ⟨rfl, rfl⟩ := Prod.mk.inj hTL
          clear hTL i1 i2 i3 i4 hlt kb
          go_wp2_with fail
          go_ret
          exact ⟨rfl, up2 B3.out HBW.out⟩
        · obtain ⟨h1, h2, h3, b1, b2⟩ := NE.out
          obtain ⟨hA, hLo, hHi⟩ := EQ.out
          have hll := HL.out
          obtain ⟨g1, g2, g3, g4, g5, g6⟩ := linesF_is n k T L hz h1 h2 TLe.out
          have hmn : min k T = k := by omega
          have hmx : max k T = T := by omega
          have hi' : i = T := by omega
          rw [hmn, hi', g4] at i3
          obtain ⟨FI, hFI⟩ : ∃ x, x = lineB cs lo k := ⟨_, rfl⟩
          rw [← hFI]
          obtain ⟨c, hc⟩ : ∃ x, x = prevC cs T := ⟨_, rfl⟩
          obtain ⟨R, hR⟩ : ∃ x, x = bwdN cs lo F (lineB cs lo (lineB cs lo T)) := ⟨_, rfl⟩
          obtain ⟨U, hU⟩ : ∃ x, x = bwdN cs lo 1 (lineB cs lo k) := ⟨_, rfl⟩
          have hR2 := hR
          rw [lineB_idem T (by omega), i3, back_is n k T L h1 g2 g4] at hR2
          have hU2 := hU
          rw [up_is k h1] at hU2
          obtain ⟨m1, hm1⟩ : ∃ x, x = max lo (FI - 1) := ⟨_, rfl⟩
          obtain ⟨O, hO⟩ : ∃ x, x = lineB cs lo m1 := ⟨_, rfl⟩
          have t1 : lo ≤ lineB cs lo T := lineB_ge T
          have t2 : lineB cs lo T ≤ T := lineB_le T (by omega)
          have d6 : ((n : Int) == (0 : Int)) = false := by simp; omega
          have n6 : (n = 0) = False := eq_false (by omega)
          have d7 : decide ((T : Int) < k) = false := decide_eq_false (by omega)
          have n7 : (T < k) = False := eq_false (by omega)
          have s7 : IntKind.i64.wrap ((n : Int) - L) = (F : Int) := by rw [IntWalk.i64_in _ (by omega)]; omega
          have s8 : IntKind.i64.wrap ((T : Int) - 1) = (T : Int) - 1 := IntWalk.i64_in _ (by omega)
          have s9 : IntKind.i64.wrap (-(F : Int)) = -(F : Int) := IntWalk.i64_in _ (by omega)
          have s10 : IntKind.i64.wrap ((FI : Int) - 1) = (FI : Int) - 1 := IntWalk.i64_in _ (by omega)
          have s11 : max Lo ((FI : Int) - 1) = (m1 : Int) := by omega
          have r1 : ((R.1 : Int) == (FI : Int)) = true := by rw [hR2, hFI]; simp
          have r2 : ((R.2 : Int) == (0 : Int)) = true := by rw [hR2]; simp
          obtain ⟨R1, R2⟩ := R
          obtain ⟨U1, U2⟩ := U
          dsimp only at r1 r2
          have p1 : (R1 = FI) = True := eq_true (by have := eq_of_beq r1; omega)
          have p3 : ((R1 : Int) = (FI : Int)) = True := eq_true (eq_of_beq r1)
          have p4 : ((R2 : Int) != (0 : Int)) = false := by rw [bne, r2]; rfl
          have p5 : ((R1 : Int) != (FI : Int)) = false := by rw [bne, r1]; rfl
          have p2 : (R2 = 0) = True := eq_true (by simpa using r2)
          have p0 : lo ≤ m1 ∧ m1 ≤ hi := by omega
          have hF19 : F ≤ 1000 := by omega
          have GG := Lib.hid (⟨h1, h2, h3, g2, g3, t1, t2, p0.1, p0.2, hll, hF19⟩ : _ ∧ _ ∧ _ ∧ _ ∧ _ ∧ _ ∧ _ ∧ _ ∧ _ ∧ _ ∧ _)
          clear hF19
          have QQ := Lib.hid (⟨hFI, hc, hR, hU, hO⟩ : _ ∧ _ ∧ _ ∧ _ ∧ _)
          have hcL : (L = 0 → c = 10) := fun h0 => by
            obtain ⟨x1, x2⟩ := g6 h0
            rw [hc]; unfold prevC; rw [if_pos (by omega)]; exact x2
          have hcT : (L ≠ 0 → (T : Int) = Hi) := fun h0 => by have := g5 (by omega); omega
          have fl1 : FI = lo → (U1, U2) = (lo, 1) := fun h0 => by rw [hU2, ← hFI, if_pos h0]
          have fl2 : FI ≠ lo → (U1, U2) = (O, 0) := fun h0 => by
            rw [hU2, ← hFI, if_neg h0, hO, hm1, Nat.max_eq_right (by omega)]
          by_cases hfl : FI = lo
          · have x1 : ((FI : Int) == Lo) = true := by rw [hLo]; simp; omega
            have x2 : ((FI : Int) = Lo) = True := eq_true (by omega)
            have hu := fl1 hfl
            have x3 : ((U1 : Int) == Lo) = true := by rw [(Prod.mk.inj hu).1, hLo]; simp
            have x4 : ((U1 : Int) = Lo) = True := eq_true (by simpa using x3)
            have x5 : ((U2 : Int) == (1 : Int)) = true := by rw [(Prod.mk.inj hu).2]; simp
            have x6 : (U2 = 1) = True := eq_true (by simpa using (Prod.mk.inj hu).2)
            by_cases hL0 : L = 0
            · have y1 : ((L : Int) == (0 : Int)) = true := by rw [hL0]; rfl
              have y2 : (L = 0) = True := eq_true hL0
              have y3 : decide ((0 : Int) < (L : Int)) = false := decide_eq_false (by omega)
              have y4 : (0 < L) = False := eq_false (by omega)
              have y5 : ((c : Int) == (10 : Int)) = true := by rw [hcL hL0]; rfl
              have y6 : (c = 10) = True := eq_true (hcL hL0)
              have y7 : ((c : Int) != (10 : Int)) = false := by rw [bne, y5]; rfl
              clear hu fl1 fl2 hcL hcT hL0 hfl hU2 hR2 hFI hc hR hU hO hm1 hi' hmn hmx i1 i2 i3 i4 hlt kb g1 g2 g3 g4 g5 g6 hz h1 h2 h3 b1 b2 hA hLo hHi hll t1 t2 p0
              go_wp2_with fail
              refine (bchar_prev (HRR.out.up HBW.out) T (by have := GG.out; omega) (by have := GG.out; omega)).mono ?_
              rintro e v1 ⟨rfl, hv1⟩
              have V1 := Lib.hid (up2 HBW.out hv1)
              clear hv1
              rw [← QQ.out.2.1]
              generalize decide (2 ≤ T) = ok
              go_wp2_with fail
              refine (begin_ok (HRR.out.up V1.out) T (by have := GG.out; omega) (by have := GG.out; omega)).mono ?_
              rintro e v2 ⟨rfl, hv2⟩
              have V2 := Lib.hid (up2 V1.out hv2)
              clear hv2
              go_wp2_with fail
              refine (lines_rest (HRR.out.up V2.out) (lineB cs lo T) F (by have := GG.out; omega) (by have := GG.out; omega) (by have := GG.out; omega)).mono ?_
              rintro e v3 ⟨rfl, hv3⟩
              have V3 := Lib.hid (up2 V2.out hv3)
              clear hv3
              rw [← QQ.out.2.2.1]
              go_wp2_with fail
              refine (lines_rest (HRR.out.up V3.out) k 1 (by omega) (by have := GG.out; omega) (by have := GG.out; omega)).mono ?_
              rintro e v4 ⟨rfl, hv4⟩
              have V4 := Lib.hid (up2 V3.out hv4)
              clear hv4
              rw [← QQ.out.2.2.2.1]
              go_wp2_with fail
              refine (begin_ok (HRR.out.up V4.out) m1 (by have := GG.out; omega) (by have := GG.out; omega)).mono ?_
              rintro e v5 ⟨rfl, hv5⟩
              have V5 := Lib.hid (up2 V4.out hv5)
              clear hv5
              rw [← QQ.out.2.2.2.2]
              go_wp2_with fail
              go_ret
              exact ⟨rfl, up2 B3.out V5.out⟩
            · have y1 : ((L : Int) == (0 : Int)) = false := by simp; omega
              have y2 : (L = 0) = False := eq_false hL0
              have y3 : decide ((0 : Int) < (L : Int)) = true := decide_eq_true (by omega)
              have y4 : (0 < L) = True := eq_true (by omega)
              have y5 : ((T : Int) == Hi) = true := by simpa using hcT hL0
              have y6 : ((T : Int) = Hi) = True := eq_true (hcT hL0)
              have y7 : ((T : Int) != Hi) = false := by rw [bne, y5]; rfl
              clear hu fl1 fl2 hcL hcT hL0 hfl hU2 hR2 hFI hc hR hU hO hm1 hi' hmn hmx i1 i2 i3 i4 hlt kb g1 g2 g3 g4 g5 g6 hz h1 h2 h3 b1 b2 hA hLo hHi hll t1 t2 p0
              go_wp2_with fail
              refine (bchar_prev (HRR.out.up HBW.out) T (by have := GG.out; omega) (by have := GG.out; omega)).mono ?_
              rintro e v1 ⟨rfl, hv1⟩
              have V1 := Lib.hid (up2 HBW.out hv1)
              clear hv1
              rw [← QQ.out.2.1]
              generalize decide (2 ≤ T) = ok
              go_wp2_with fail
              refine (begin_ok (HRR.out.up V1.out) T (by have := GG.out; omega) (by have := GG.out; omega)).mono ?_
              rintro e v2 ⟨rfl, hv2⟩
              have V2 := Lib.hid (up2 V1.out hv2)
              clear hv2
              go_wp2_with fail
              refine (lines_rest (HRR.out.up V2.out) (lineB cs lo T) F (by have := GG.out; omega) (by have := GG.out; omega) (by have := GG.out; omega)).mono ?_
              rintro e v3 ⟨rfl, hv3⟩
              have V3 := Lib.hid (up2 V2.out hv3)
              clear hv3
              rw [← QQ.out.2.2.1]
              go_wp2_with fail
              refine (lines_rest (HRR.out.up V3.out) k 1 (by omega) (by have := GG.out; omega) (by have := GG.out; omega)).mono ?_
              rintro e v4 ⟨rfl, hv4⟩
              have V4 := Lib.hid (up2 V3.out hv4)
              clear hv4
              rw [← QQ.out.2.2.2.1]
              go_wp2_with fail
              refine (begin_ok (HRR.out.up V4.out) m1 (by have := GG.out; omega) (by have := GG.out; omega)).mono ?_
              rintro e v5 ⟨rfl, hv5⟩
              have V5 := Lib.hid (up2 V4.out hv5)
              clear hv5
              rw [← QQ.out.2.2.2.2]
              go_wp2_with fail
              go_ret
              exact ⟨rfl, up2 B3.out V5.out⟩
          · have x1 : ((FI : Int) == Lo) = false := by rw [hLo]; simp; omega
            have x2 : ((FI : Int) = Lo) = False := eq_false (by omega)
            have hu := fl2 hfl
            have x3 : ((U1 : Int) == (O : Int)) = true := by rw [(Prod.mk.inj hu).1]; simp
            have x7 : ((U1 : Int) = (O : Int)) = True := eq_true (eq_of_beq x3)
            have x4 : (U1 = O) = True := eq_true (by have := eq_of_beq x3; omega)
            have x5 : ((U2 : Int) == (0 : Int)) = true := by rw [(Prod.mk.inj hu).2]; simp
            have x6 : (U2 = 0) = True := eq_true (by simpa using (Prod.mk.inj hu).2)
            by_cases hL0 : L = 0
            · have y1 : ((L : Int) == (0 : Int)) = true := by rw [hL0]; rfl
              have y2 : (L = 0) = True := eq_true hL0
              have y3 : decide ((0 : Int) < (L : Int)) = false := decide_eq_false (by omega)
              have y4 : (0 < L) = False := eq_false (by omega)
              have y5 : ((c : Int) == (10 : Int)) = true := by rw [hcL hL0]; rfl
              have y6 : (c = 10) = True := eq_true (hcL hL0)
              have y7 : ((c : Int) != (10 : Int)) = false := by rw [bne, y5]; rfl
              clear hu fl1 fl2 hcL hcT hL0 hfl hU2 hR2 hFI hc hR hU hO hm1 hi' hmn hmx i1 i2 i3 i4 hlt kb g1 g2 g3 g4 g5 g6 hz h1 h2 h3 b1 b2 hA hLo hHi hll t1 t2 p0
              go_wp2_with fail
              refine (bchar_prev (HRR.out.up HBW.out) T (by have := GG.out; omega) (by have := GG.out; omega)).mono ?_
              rintro e v1 ⟨rfl, hv1⟩
              have V1 := Lib.hid (up2 HBW.out hv1)
              clear hv1
              rw [← QQ.out.2.1]
              generalize decide (2 ≤ T) = ok
              go_wp2_with fail
              refine (begin_ok (HRR.out.up V1.out) T (by have := GG.out; omega) (by have := GG.out; omega)).mono ?_
              rintro e v2 ⟨rfl, hv2⟩
              have V2 := Lib.hid (up2 V1.out hv2)
              clear hv2
              go_wp2_with fail
              refine (lines_rest (HRR.out.up V2.out) (lineB cs lo T) F (by have := GG.out; omega) (by have := GG.out; omega) (by have := GG.out; omega)).mono ?_
              rintro e v3 ⟨rfl, hv3⟩
              have V3 := Lib.hid (up2 V2.out hv3)
              clear hv3
              rw [← QQ.out.2.2.1]
              go_wp2_with fail
              refine (lines_rest (HRR.out.up V3.out) k 1 (by omega) (by have := GG.out; omega) (by have := GG.out; omega)).mono ?_
              rintro e v4 ⟨rfl, hv4⟩
              have V4 := Lib.hid (up2 V3.out hv4)
              clear hv4
              rw [← QQ.out.2.2.2.1]
              go_wp2_with fail
              refine (begin_ok (HRR.out.up V4.out) m1 (by have := GG.out; omega) (by have := GG.out; omega)).mono ?_
              rintro e v5 ⟨rfl, hv5⟩
              have V5 := Lib.hid (up2 V4.out hv5)
              clear hv5
              rw [← QQ.out.2.2.2.2]
              go_wp2_with fail
              go_ret
              exact ⟨rfl, up2 B3.out V5.out⟩
            · have y1 : ((L : Int) == (0 : Int)) = false := by simp; omega
              have y2 : (L = 0) = False := eq_false hL0
              have y3 : decide ((0 : Int) < (L : Int)) = true := decide_eq_true (by omega)
              have y4 : (0 < L) = True := eq_true (by omega)
              have y5 : ((T : Int) == Hi) = true := by simpa using hcT hL0
              have y6 : ((T : Int) = Hi) = True := eq_true (hcT hL0)
              have y7 : ((T : Int) != Hi) = false := by rw [bne, y5]; rfl
              clear hu fl1 fl2 hcL hcT hL0 hfl hU2 hR2 hFI hc hR hU hO hm1 hi' hmn hmx i1 i2 i3 i4 hlt kb g1 g2 g3 g4 g5 g6 hz h1 h2 h3 b1 b2 hA hLo hHi hll t1 t2 p0
              go_wp2_with fail
              refine (bchar_prev (HRR.out.up HBW.out) T (by have := GG.out; omega) (by have := GG.out; omega)).mono ?_
              rintro e v1 ⟨rfl, hv1⟩
              have V1 := Lib.hid (up2 HBW.out hv1)
              clear hv1
              rw [← QQ.out.2.1]
              generalize decide (2 ≤ T) = ok
              go_wp2_with fail
              refine (begin_ok (HRR.out.up V1.out) T (by have := GG.out; omega) (by have := GG.out; omega)).mono ?_
              rintro e v2 ⟨rfl, hv2⟩
              have V2 := Lib.hid (up2 V1.out hv2)
              clear hv2
              go_wp2_with fail
              refine (lines_rest (HRR.out.up V2.out) (lineB cs lo T) F (by have := GG.out; omega) (by have := GG.out; omega) (by have := GG.out; omega)).mono ?_
              rintro e v3 ⟨rfl, hv3⟩
              have V3 := Lib.hid (up2 V2.out hv3)
              clear hv3
              rw [← QQ.out.2.2.1]
              go_wp2_with fail
              refine (lines_rest (HRR.out.up V3.out) k 1 (by omega) (by have := GG.out; omega) (by have := GG.out; omega)).mono ?_
              rintro e v4 ⟨rfl, hv4⟩
              have V4 := Lib.hid (up2 V3.out hv4)
              clear hv4
              rw [← QQ.out.2.2.2.1]
              go_wp2_with fail
              refine (begin_ok (HRR.out.up V4.out) m1 (by have := GG.out; omega) (by have := GG.out; omega)).mono ?_
              rintro e v5 ⟨rfl, hv5⟩
              have V5 := Lib.hid (up2 V4.out hv5)
              clear hv5
              rw [← QQ.out.2.2.2.2]
              go_wp2_with fail
              go_ret
              exact ⟨rfl, up2 B3.out V5.out⟩
end
end Go.Proofs.YtafdebkamnmheaaGreatDoor
