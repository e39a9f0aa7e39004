import Derived.Test.YtafdebkamnmheaaGreatDoorJv
/- ColumnSeeks: the walk. -/
namespace Go.Proofs.YtafdebkamnmheaaGreatDoor
open Go.RowKit
set_option linter.unusedVariables false
set_option linter.unusedSimpArgs false
section
variable {w w' : World}
set_option maxRecDepth 100000 in
set_option maxHeartbeats 8000000 in
theorem seeks_true {N : Nat} (hT : Tabs N w) (hR : Rules N w) (hN : N ≤ w.heap.size) (s : ByteArray) (a z av cv tv : Int) :
    Calls Tryz.prog 3 #[.string s, .int .i64 a, .int .i64 z, .int .i64 av, .int .i64 cv, .int .i64 tv] w fun r w' => r = .returned (.bool true) ∧ Below w.heap.size w w' := by
  have HT := Lib.hid hT
  have HR := Lib.hid hR
  clear hT hR
  go_enter Tryz.func3, Tryz.ntmps3
  go_wp2_with fail
  refine (lives_true HT.out HR.out hN).mono ?_
  rintro e w1 ⟨rfl, hb1⟩
  have B1 := Lib.hid hb1
  clear hb1
  go_wp2_with fail
  refine (light_ok s w1).mono ?_
  rintro e w2 ⟨rfl, hb2⟩
  have B2 := Lib.hid (up2 B1.out hb2)
  have z2 := (up2 B1.out hb2).size
  clear hb2
  cases hli : lightB s with
  | false =>
    go_wp2_with fail
    go_ret
    exact ⟨rfl, B2.out⟩
  | true =>
    unfold lightB at hli
    simp only [Bool.and_eq_true, decide_eq_true_eq] at hli
    obtain ⟨hsz, hv⟩ := hli
    rw [vld_chars] at hv
    have hlen := chrs_len s
    go_wp2_with fail
    refine (pair_ok ((HT.out.up B2.out).low hN) ((HR.out.up B2.out).low hN) (by omega) s (by omega) hv a z).mono ?_
    rintro e w3 ⟨b, rb, g, S, rfl, hb3, hbt⟩
    have hr := hbt.r
    obtain ⟨cs, hcs⟩ : ∃ cs, cs = chrs s := ⟨_, rfl⟩
    rw [← hcs] at hr hlen
    have B3 := Lib.hid (up2 B2.out hb3)
    clear hb3 hbt hcs hv HT HR z2 hN
    generalize S.lo = lo at *
    generalize S.hi = hi at *
    generalize S.pt = pt at *
    have hl := hr.len
    obtain ⟨Lo, hLo⟩ : ∃ x : Int, x = (lo : Int) := ⟨_, rfl⟩
    obtain ⟨Hi, hHi⟩ : ∃ x : Int, x = (hi : Int) := ⟨_, rfl⟩
    have hrch := breach hr
    rw [← hLo, ← hHi] at hrch
    obtain ⟨q1, q2⟩ := pick_pos av (Hi + 1 - Lo) (by omega)
    obtain ⟨q3, q4⟩ := pick_pos cv 200 (by omega)
    obtain ⟨q5, q6⟩ := pick_pos tv 64 (by omega)
    have k1 := fun w => pick_any av (Hi + 1 - Lo) w (by omega) (by omega)
    have k2 := fun w => pick_any cv 200 w (by omega) (by omega)
    have k3 := fun w => pick_any tv 64 w (by omega) (by omega)
    generalize pickI av (Hi + 1 - Lo) = p1 at *
    generalize pickI cv 200 = C at *
    generalize pickI tv 64 = p3 at *
    obtain ⟨A, hA⟩ : ∃ x : Int, x = Lo + p1 := ⟨_, rfl⟩
    obtain ⟨T, hT⟩ : ∃ x : Int, x = 1 + p3 := ⟨_, rfl⟩
    have s1 : IntKind.i64.wrap (Hi + 1) = Hi + 1 := IntWalk.i64_in _ (by omega)
    have s2 : IntKind.i64.wrap (Hi + 1 - Lo) = Hi + 1 - Lo := IntWalk.i64_in _ (by omega)
    have s3 : IntKind.i64.wrap (Lo + p1) = A := by rw [hA]; exact IntWalk.i64_in _ (by omega)
    have s4 : IntKind.i64.wrap (1 + p3) = T := by rw [hT]; exact IntWalk.i64_in _ (by omega)
    obtain ⟨k, hk⟩ : ∃ k : Nat, A = (k : Int) := ⟨A.toNat, by omega⟩
    obtain ⟨tb, htb⟩ : ∃ k : Nat, T = (k : Int) := ⟨T.toNat, by omega⟩
    obtain ⟨c, hc⟩ : ∃ k : Nat, C = (k : Int) := ⟨C.toNat, by omega⟩
    subst hk htb hc
    have h1 : lo ≤ k := by omega
    have h2 : k ≤ hi := by omega
    have h3 : 1 ≤ tb := by omega
    have h4 : tb ≤ 64 := by omega
    have b1 : lo ≤ lineB cs lo k := lineB_ge k
    have b2 : lineB cs lo k ≤ k := lineB_le k h1
    have e1 : k ≤ lineE cs hi k := lineE_ge k
    have e2 : lineE cs hi k ≤ hi := lineE_le k h2
    have hsame : ∀ i, lineB cs lo k ≤ i → i ≤ lineE cs hi k → lineB cs lo i = lineB cs lo k := fun i h h' => lineB_same (hi := hi) k i h1 h h'
    have hbeg : ∀ w', Below w3.heap.size w3 w' → _ := fun w' hb => begin_ok (hr.up hb) k h1 h2
    have hend : ∀ w', Below w3.heap.size w3 w' → _ := fun w' hb => end_ok (hr.up hb) k h1 h2
    have hcol : ∀ w' i, Below w3.heap.size w3 w' → lineB cs lo k ≤ i → i ≤ lineE cs hi k → Calls Tryz.prog 12 #[.pointer (some ⟨b, 0, none⟩), .int .i64 i, .int .i64 tb] w' fun e w'' => e = .returned (.tuple #[.int .i64 (colN widN cs tb (lineB cs lo k) i), .int .i64 0]) ∧ Below w'.heap.size w' w'' := fun w' i hb h h' => by
      have q := column_ok (hr.up hb) i tb h3 h4 (by omega) (by omega)
      rw [hsame i h h'] at q
      exact q
    have hsk : ∀ w' (d : Nat), Below w3.heap.size w3 w' → _ := fun w' d hb => seek_ok (hr.up hb) k tb d h3 h4 h1 h2
    generalize hBB : lineB cs lo k = B at *
    generalize hEE : lineE cs hi k = E at *
    have hmono : ∀ i j, B ≤ i → i ≤ j → colN widN cs tb B i ≤ colN widN cs tb B j := fun i j h h' => colN_le h3 B i j h h'
    have hself : colN widN cs tb B B = 0 := colN_self B
    have hseq : ∀ i, B ≤ i → i ≤ E → (∀ j, B ≤ j → j < i → colN widN cs tb B j < c) → (i = E ∨ c ≤ colN widN cs tb B i) → seekN widN cs tb B E c = i := fun i h h' g g' => seekN_eq B E c i (by omega) h h' g g'
    obtain ⟨hown1, hown2⟩ := seek_own (wid := widN) (cs := cs) h3 B E k (by omega) (by omega)
    have BG := Lib.hid hbeg
    have EN := Lib.hid hend
    have CO := Lib.hid hcol
    have SK := Lib.hid hsk
    have MO := Lib.hid hmono
    have SE := Lib.hid hseq
    have OW := Lib.hid (And.intro hown1 hown2)
    have SF := Lib.hid hself
    have RC := Lib.hid hrch
    have K1 := Lib.hid k1
    have K2 := Lib.hid k2
    have K3 := Lib.hid k3
    have EQ := Lib.hid (⟨hA, hT, hLo, hHi⟩ : _ ∧ _ ∧ _ ∧ _)
    have NE := Lib.hid (⟨h1, h2, h3, h4, b1, b2, e1, e2⟩ : _ ∧ _ ∧ _ ∧ _ ∧ _ ∧ _ ∧ _ ∧ _)
    have PB := Lib.hid (⟨q1, q2, q3, q4, q5, q6⟩ : _ ∧ _ ∧ _ ∧ _ ∧ _ ∧ _)
    have HL := Lib.hid hl
    clear hA hT hLo hHi h1 h2 h3 h4 b1 b2 e1 e2 q1 q2 q3 q4 q5 q6 hl hBB hEE hlen hsz
    clear hbeg hend hcol hsk hmono hseq hown1 hown2 hself hrch k1 k2 k3 hsame hr
    go_wp2_with fail
    refine RC.out.mono ?_
    rintro e w4 ⟨rfl, hb4⟩
    have B4 := Lib.hid hb4
    clear hb4
    go_wp2_with fail
    refine (K1.out w4).mono ?_
    rintro e w5 ⟨rfl, rfl⟩
    go_wp2_with fail
    refine (K2.out w4).mono ?_
    rintro e w5 ⟨rfl, rfl⟩
    go_wp2_with fail
    refine (K3.out w4).mono ?_
    rintro e w5 ⟨rfl, rfl⟩
    go_wp2_with fail
    -- TAIL
    refine (BG.out w4 B4.out).mono ?_
    rintro e w5 ⟨rfl, hb5⟩
    have B5 := Lib.hid (up2 B4.out hb5)
    clear hb5
    go_wp2_with fail
    refine (EN.out w5 B5.out).mono ?_
    rintro e w6 ⟨rfl, hb6⟩
    have B6 := Lib.hid (up2 B5.out hb6)
    clear hb6
    obtain ⟨hA, hT, hLo, hHi⟩ := EQ.out
    obtain ⟨h1, h2, h3, h4, b1, b2, e1, e2⟩ := NE.out
    have f1 : decide ((B : Int) < Lo) = false := decide_eq_false (by omega)
    have f2 : decide ((k : Int) < B) = false := decide_eq_false (by omega)
    have f3 : decide ((E : Int) < k) = false := decide_eq_false (by omega)
    have n2 : (k < B) = False := eq_false (by omega)
    have n3 : (E < k) = False := eq_false (by omega)
    have f4 : decide (Hi < (E : Int)) = false := decide_eq_false (by omega)
    have bE : B ≤ E := by omega
    have EN2 : Hid (E ≤ 200000000) := Lib.hid (by have := HL.out; omega)
    clear hA hT hLo hHi h1 h2 h3 h4 e1 e2 b1 b2
    have BE := Lib.hid bE
    clear bE
    go_wp2_with fail
    clear f1 f2 f3 f4 n2 n3
    go_loopw [22, 23, 24, 25, 26, 27] (fun vw vd vl vi vn vg wr => ∃ i : Nat, B ≤ i ∧ i ≤ E + 1 ∧ vi = .int .i64 i ∧ (∃ L : Nat, vl = .int .i64 L ∧ (B = i ∧ L = 0 ∨ B < i ∧ L = colN widN cs tb B (i - 1))) ∧ ((vw = .int .i64 E ∧ vd = .int .i64 (-1) ∧ ∀ j, B ≤ j → j < i → colN widN cs tb B j < c) ∨ (∃ m, B ≤ m ∧ m < i ∧ m ≤ E ∧ vw = .int .i64 m ∧ vd = .int .i64 (colN widN cs tb B m) ∧ seekN widN cs tb B E c = m)) ∧ Below w3.heap.size w3 wr) (fun _ _ _ vi _ _ _ => E + 2 - (intOf vi).toNat)
    case atStart => exact ⟨B, Nat.le_refl _, by have := BE.out; omega, rfl, ⟨0, rfl, .inl ⟨rfl, rfl⟩⟩, .inl ⟨rfl, rfl, fun j h h' => absurd h' (by omega)⟩, B6.out⟩
    case round =>
      obtain ⟨i, hi1, hi2, rfl, ⟨L, rfl, hL⟩, hst, hbw⟩ := hrel
      have HBW := Lib.hid hbw
      clear hbw
      have bE := BE.out
      have eN := EN2.out
      by_cases hle : i ≤ E
      · have d0 : decide ((i : Int) ≤ E) = true := decide_eq_true (by omega)
        have n0 : (i ≤ E) = True := eq_true hle
        have HC := CO.out wr i HBW.out hi1 hle
        obtain ⟨n, hn⟩ : ∃ n, n = colN widN cs tb B i := ⟨_, rfl⟩
        rw [← hn] at HC
        have HC := Lib.hid HC
        have hnL : L ≤ n := by
          rcases hL with ⟨_, hL⟩ | ⟨h, hL⟩
          · omega
          · rw [hn, hL]; exact MO.out _ _ (by omega) (by omega)
        have d1 : decide ((n : Int) < L) = false := decide_eq_false (by omega)
        have n1 : (n < L) = False := eq_false (by omega)
        have s1 : IntKind.i64.wrap ((i : Int) + 1) = ((i + 1 : Nat) : Int) := by rw [IntWalk.i64_in _ (by omega)]; omega
        have HI := Lib.hid (⟨hi1, hle⟩ : _ ∧ _)
        have HN := Lib.hid hn
        by_cases heB : i = B
        · have d2 : ((i : Int) == (B : Int)) = true := by rw [heB]; simp
          have hn0 : n = 0 := by rw [hn, heB]; exact SF.out
          have n2 : (i = B) = True := eq_true heB
          have n3 : (n = 0) = True := eq_true hn0
          have d3 : ((n : Int) == (0 : Int)) = true := by rw [hn0]; rfl
          have HC2 := trivial
          clear heB hn0
          rcases hst with ⟨rfl, rfl, hf⟩ | ⟨m, m1, m2, m3, rfl, rfl, m4⟩
          · have HF := Lib.hid hf
            clear hf
            by_cases hge : c ≤ n
            · skip
              have d4 : decide ((c : Int) ≤ n) = true := decide_eq_true (by omega)
              have n4 : (c ≤ n) = True := eq_true (by omega)
              have HG := Lib.hid hge
              clear hge hi1 hi2 hle hnL hn bE eN hL HC2
              go_wp2_with fail
              refine HC.out.mono ?_
              rintro e u1 ⟨rfl, hu1⟩
              have U1 := Lib.hid (up2 HBW.out hu1)
              clear hu1
              go_wp2_with fail
              go_roundw
              case rel =>
                obtain ⟨hi1, hle⟩ := HI.out
                have hge := HG.out
                exact ⟨i + 1, by omega, by omega, by first | rfl | go_num, ⟨n, rfl, .inr ⟨by omega, by rw [Nat.add_sub_cancel]; exact HN.out⟩⟩, .inr ⟨i, hi1, by omega, hle, rfl, by rw [HN.out], SE.out i hi1 hle HF.out (.inr (by rw [← HN.out]; exact hge))⟩, U1.out⟩
              case measure => have := HI.out; simp [intOf]; omega
            · skip
              have d4 : decide ((c : Int) ≤ n) = false := decide_eq_false (by omega)
              have n4 : (c ≤ n) = False := eq_false (by omega)
              have HG := Lib.hid hge
              clear hge hi1 hi2 hle hnL hn bE eN hL HC2
              go_wp2_with fail
              refine HC.out.mono ?_
              rintro e u1 ⟨rfl, hu1⟩
              have U1 := Lib.hid (up2 HBW.out hu1)
              clear hu1
              go_wp2_with fail
              go_roundw
              case rel =>
                obtain ⟨hi1, hle⟩ := HI.out
                have hge := HG.out
                exact ⟨i + 1, by omega, by omega, by first | rfl | go_num, ⟨n, rfl, .inr ⟨by omega, by rw [Nat.add_sub_cancel]; exact HN.out⟩⟩, .inl ⟨rfl, rfl, fun j hj hj' => by
                  by_cases e : j = i
                  · rw [e, ← HN.out]; omega
                  · exact HF.out j hj (by omega)⟩, U1.out⟩
              case measure => have := HI.out; simp [intOf]; omega
          · have HM := Lib.hid (⟨m1, m2, m3, m4⟩ : _ ∧ _ ∧ _ ∧ _)
            clear m1 m2 m3 m4
            by_cases hge : c ≤ n
            · skip
              have d4 : decide ((c : Int) ≤ n) = true := decide_eq_true (by omega)
              have n4 : (c ≤ n) = True := eq_true (by omega)
              have d5 : decide ((colN widN cs tb B m : Int) < 0) = false := decide_eq_false (by omega)
              have HG := Lib.hid hge
              clear hge hi1 hi2 hle hnL hn bE eN hL HC2
              go_wp2_with fail
              refine HC.out.mono ?_
              rintro e u1 ⟨rfl, hu1⟩
              have U1 := Lib.hid (up2 HBW.out hu1)
              clear hu1
              go_wp2_with fail
              go_roundw
              case rel =>
                obtain ⟨hi1, hle⟩ := HI.out
                have hge := HG.out
                exact ⟨i + 1, by omega, by omega, by first | rfl | go_num, ⟨n, rfl, .inr ⟨by omega, by rw [Nat.add_sub_cancel]; exact HN.out⟩⟩, .inr ⟨m, HM.out.1, by have := HM.out.2.1; omega, HM.out.2.2.1, rfl, rfl, HM.out.2.2.2⟩, U1.out⟩
              case measure => have := HI.out; simp [intOf]; omega
            · skip
              have d4 : decide ((c : Int) ≤ n) = false := decide_eq_false (by omega)
              have n4 : (c ≤ n) = False := eq_false (by omega)
              have d5 : decide ((colN widN cs tb B m : Int) < 0) = false := decide_eq_false (by omega)
              have HG := Lib.hid hge
              clear hge hi1 hi2 hle hnL hn bE eN hL HC2
              go_wp2_with fail
              refine HC.out.mono ?_
              rintro e u1 ⟨rfl, hu1⟩
              have U1 := Lib.hid (up2 HBW.out hu1)
              clear hu1
              go_wp2_with fail
              go_roundw
              case rel =>
                obtain ⟨hi1, hle⟩ := HI.out
                have hge := HG.out
                exact ⟨i + 1, by omega, by omega, by first | rfl | go_num, ⟨n, rfl, .inr ⟨by omega, by rw [Nat.add_sub_cancel]; exact HN.out⟩⟩, .inr ⟨m, HM.out.1, by have := HM.out.2.1; omega, HM.out.2.2.1, rfl, rfl, HM.out.2.2.2⟩, U1.out⟩
              case measure => have := HI.out; simp [intOf]; omega
        · have d2 : ((i : Int) == (B : Int)) = false := by simp; omega
          have n2 : (i = B) = False := eq_false heB
          have HC2 := trivial
          clear heB
          rcases hst with ⟨rfl, rfl, hf⟩ | ⟨m, m1, m2, m3, rfl, rfl, m4⟩
          · have HF := Lib.hid hf
            clear hf
            by_cases hge : c ≤ n
            · skip
              have d4 : decide ((c : Int) ≤ n) = true := decide_eq_true (by omega)
              have n4 : (c ≤ n) = True := eq_true (by omega)
              have HG := Lib.hid hge
              clear hge hi1 hi2 hle hnL hn bE eN hL HC2
              go_wp2_with fail
              refine HC.out.mono ?_
              rintro e u1 ⟨rfl, hu1⟩
              have U1 := Lib.hid (up2 HBW.out hu1)
              clear hu1
              go_wp2_with fail
              go_roundw
              case rel =>
                obtain ⟨hi1, hle⟩ := HI.out
                have hge := HG.out
                exact ⟨i + 1, by omega, by omega, by first | rfl | go_num, ⟨n, rfl, .inr ⟨by omega, by rw [Nat.add_sub_cancel]; exact HN.out⟩⟩, .inr ⟨i, hi1, by omega, hle, rfl, by rw [HN.out], SE.out i hi1 hle HF.out (.inr (by rw [← HN.out]; exact hge))⟩, U1.out⟩
              case measure => have := HI.out; simp [intOf]; omega
            · skip
              have d4 : decide ((c : Int) ≤ n) = false := decide_eq_false (by omega)
              have n4 : (c ≤ n) = False := eq_false (by omega)
              have HG := Lib.hid hge
              clear hge hi1 hi2 hle hnL hn bE eN hL HC2
              go_wp2_with fail
              refine HC.out.mono ?_
              rintro e u1 ⟨rfl, hu1⟩
              have U1 := Lib.hid (up2 HBW.out hu1)
              clear hu1
              go_wp2_with fail
              go_roundw
              case rel =>
                obtain ⟨hi1, hle⟩ := HI.out
                have hge := HG.out
                exact ⟨i + 1, by omega, by omega, by first | rfl | go_num, ⟨n, rfl, .inr ⟨by omega, by rw [Nat.add_sub_cancel]; exact HN.out⟩⟩, .inl ⟨rfl, rfl, fun j hj hj' => by
                  by_cases e : j = i
                  · rw [e, ← HN.out]; omega
                  · exact HF.out j hj (by omega)⟩, U1.out⟩
              case measure => have := HI.out; simp [intOf]; omega
          · have HM := Lib.hid (⟨m1, m2, m3, m4⟩ : _ ∧ _ ∧ _ ∧ _)
            clear m1 m2 m3 m4
            by_cases hge : c ≤ n
            · skip
              have d4 : decide ((c : Int) ≤ n) = true := decide_eq_true (by omega)
              have n4 : (c ≤ n) = True := eq_true (by omega)
              have d5 : decide ((colN widN cs tb B m : Int) < 0) = false := decide_eq_false (by omega)
              have HG := Lib.hid hge
              clear hge hi1 hi2 hle hnL hn bE eN hL HC2
              go_wp2_with fail
              refine HC.out.mono ?_
              rintro e u1 ⟨rfl, hu1⟩
              have U1 := Lib.hid (up2 HBW.out hu1)
              clear hu1
              go_wp2_with fail
              go_roundw
              case rel =>
                obtain ⟨hi1, hle⟩ := HI.out
                have hge := HG.out
                exact ⟨i + 1, by omega, by omega, by first | rfl | go_num, ⟨n, rfl, .inr ⟨by omega, by rw [Nat.add_sub_cancel]; exact HN.out⟩⟩, .inr ⟨m, HM.out.1, by have := HM.out.2.1; omega, HM.out.2.2.1, rfl, rfl, HM.out.2.2.2⟩, U1.out⟩
              case measure => have := HI.out; simp [intOf]; omega
            · skip
              have d4 : decide ((c : Int) ≤ n) = false := decide_eq_false (by omega)
              have n4 : (c ≤ n) = False := eq_false (by omega)
              have d5 : decide ((colN widN cs tb B m : Int) < 0) = false := decide_eq_false (by omega)
              have HG := Lib.hid hge
              clear hge hi1 hi2 hle hnL hn bE eN hL HC2
              go_wp2_with fail
              refine HC.out.mono ?_
              rintro e u1 ⟨rfl, hu1⟩
              have U1 := Lib.hid (up2 HBW.out hu1)
              clear hu1
              go_wp2_with fail
              go_roundw
              case rel =>
                obtain ⟨hi1, hle⟩ := HI.out
                have hge := HG.out
                exact ⟨i + 1, by omega, by omega, by first | rfl | go_num, ⟨n, rfl, .inr ⟨by omega, by rw [Nat.add_sub_cancel]; exact HN.out⟩⟩, .inr ⟨m, HM.out.1, by have := HM.out.2.1; omega, HM.out.2.2.1, rfl, rfl, HM.out.2.2.2⟩, U1.out⟩
              case measure => have := HI.out; simp [intOf]; omega
      · have d0 : decide ((i : Int) ≤ E) = false := decide_eq_false (by omega)
        have n0 : (i ≤ E) = False := eq_false hle
        have hLE : L = colN widN cs tb B E := by
          rcases hL with ⟨_, _⟩ | ⟨_, hL⟩
          · omega
          · rw [hL, show i - 1 = E by omega]
        have hsk := fun w' hb => SK.out w' c hb
        have hok := fun w' hb => SK.out w' (colN widN cs tb B k) hb
        obtain ⟨h1, h2, h3, h4, b1, b2, e1, e2⟩ := NE.out
        have hck := fun w' hb => CO.out w' k hb b2 e1
        rw [OW.out.2] at hok
        obtain ⟨J, hJ⟩ : ∃ J, J = seekN widN cs tb B E (colN widN cs tb B k) := ⟨_, rfl⟩
        rw [← hJ] at hok
        have n7 : (J ≤ k) = True := eq_true (by have := OW.out.1; omega)
        have d7 : decide ((J : Int) ≤ k) = true := decide_eq_true (by have := OW.out.1; omega)
        generalize colN widN cs tb B k = O at *
        have CK := Lib.hid hck
        have OK := Lib.hid hok
        clear hck hok hJ h1 h2 h3 h4 b1 b2 e1 e2
        rcases hst with ⟨rfl, rfl, hf⟩ | ⟨m, m1, m2, m3, rfl, rfl, m4⟩
        · rw [SE.out E bE (Nat.le_refl _) (fun j h h' => hf j h (by omega)) (.inl rfl), ← hLE] at hsk
          clear hf hLE
          have SK2 := Lib.hid hsk
          clear hsk hi1 hi2 hle bE eN hL
          go_wp2_with fail
          refine (SK2.out wr HBW.out).mono ?_
          rintro e u1 ⟨rfl, hu1⟩
          have U1 := Lib.hid (up2 HBW.out hu1)
          clear hu1
          go_wp2_with fail
          refine (CK.out u1 U1.out).mono ?_
          rintro e u2 ⟨rfl, hu2⟩
          have U2 := Lib.hid (up2 U1.out hu2)
          clear hu2
          go_wp2_with fail
          refine (OK.out u2 U2.out).mono ?_
          rintro e u3 ⟨rfl, hu3⟩
          have U3 := Lib.hid (up2 U2.out hu3)
          clear hu3
          go_wp2_with fail
          go_ret
          exact ⟨rfl, up2 B3.out U3.out⟩
        · rw [m4] at hsk
          have d5 : decide ((colN widN cs tb B m : Int) < 0) = false := decide_eq_false (by omega)
          clear m1 m2 m3 m4 hLE
          have SK2 := Lib.hid hsk
          clear hsk hi1 hi2 hle bE eN hL
          go_wp2_with fail
          refine (SK2.out wr HBW.out).mono ?_
          rintro e u1 ⟨rfl, hu1⟩
          have U1 := Lib.hid (up2 HBW.out hu1)
          clear hu1
          go_wp2_with fail
          refine (CK.out u1 U1.out).mono ?_
          rintro e u2 ⟨rfl, hu2⟩
          have U2 := Lib.hid (up2 U1.out hu2)
          clear hu2
          go_wp2_with fail
          refine (OK.out u2 U2.out).mono ?_
          rintro e u3 ⟨rfl, hu3⟩
          have U3 := Lib.hid (up2 U2.out hu3)
          clear hu3
          go_wp2_with fail
          go_ret
          exact ⟨rfl, up2 B3.out U3.out⟩
end
end Go.Proofs.YtafdebkamnmheaaGreatDoor
