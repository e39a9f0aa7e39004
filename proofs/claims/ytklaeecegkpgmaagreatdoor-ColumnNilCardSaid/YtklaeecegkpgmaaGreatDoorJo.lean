import Derived.Test.YtklaeecegkpgmaaGreatDoorJn
/- package column: the view's column and seek. -/
namespace Go.Proofs.YtklaeecegkpgmaaGreatDoor
open Go.RowKit
set_option linter.unusedVariables false
set_option linter.unusedSimpArgs false
/-- A view that lies in block v. -/
structure VwI (w : World) (v b lo hi tab : Nat) : Prop where
  c0 : w.cell? ⟨v, 0, none⟩ = some (.pointer (some ⟨b, 0, none⟩))
  c1 : w.cell? ⟨v, 1, none⟩ = some (.int .i64 lo)
  c2 : w.cell? ⟨v, 2, none⟩ = some (.int .i64 hi)
  c3 : w.cell? ⟨v, 3, none⟩ = some (.int .i64 tab)
section
variable {w w' : World} {v b pt lo hi tab : Nat} {cs : List Nat}
theorem VwI.up (h : VwI w v b lo hi tab) (hb : Below w.heap.size w w') : VwI w' v b lo hi tab :=
  have e := hb.block v (lt_of_cell h.c0)
  ⟨(World.cell?_of_block (w := w) (a := ⟨v, 0, none⟩) e).trans h.c0, (World.cell?_of_block (w := w) (a := ⟨v, 1, none⟩) e).trans h.c1, (World.cell?_of_block (w := w) (a := ⟨v, 2, none⟩) e).trans h.c2, (World.cell?_of_block (w := w) (a := ⟨v, 3, none⟩) e).trans h.c3⟩
theorem VwI.made (w : World) (b lo hi tab : Nat) {T : TypeId} : VwI (w.alloc (.cells #[.pointer (some ⟨b, 0, none⟩), .int .i64 lo, .int .i64 hi, .int .i64 tab] T)) w.heap.size b lo hi tab := by
  have e := (MapKept.heap_alloc w (.cells #[.pointer (some ⟨b, 0, none⟩), .int .i64 lo, .int .i64 hi, .int .i64 tab] T)).1
  exact ⟨by simp only [World.cell?, e]; rfl, by simp only [World.cell?, e]; rfl, by simp only [World.cell?, e]; rfl, by simp only [World.cell?, e]; rfl⟩
theorem chr_isN (h : BufR w b cs pt lo hi) (k : Nat) (h1 : 1 ≤ k) (hk : k ≤ cs.length) : isN (chr cs k) := by
  obtain ⟨t, g, h⟩ := h
  obtain ⟨B, cap, st, en, hg⟩ := h.gap
  unfold chr
  rw [List.getD_eq_getElem?_getD, List.getElem?_eq_getElem (show k - 1 < cs.length by omega)]
  exact hg.hn _ (List.getElem_mem _)
theorem colN_small (ht : tab ≤ 64) (b i : Nat) (h : b ≤ i) (hi : i ≤ 1000001) : colN widN cs tab b i ≤ 100000000 := by
  have := colN_cap (cs := cs) (wid := widN) widN_le ht b i h
  omega
set_option maxHeartbeats 2000000 in
theorem vcolumn (h : BufR w b cs pt lo hi) (tab k : Nat) (ht1 : 1 ≤ tab) (ht2 : tab ≤ 64) (h2 : lo ≤ k) (h3 : k ≤ hi) :
    Calls Tryz.prog 21 #[vwV b lo hi tab, .int .i64 k] w fun e w' => e = .returned (.int .i64 (colN widN cs tab (lineB cs lo k) k)) ∧ Below w.heap.size w w' := by
  have hl := h.len
  have HH := Lib.hid h
  have hB1 : lo ≤ lineB cs lo k := lineB_ge k
  have hB2 : lineB cs lo k ≤ k := lineB_le k h2
  obtain ⟨R, hR⟩ : ∃ R, R = colN widN cs tab (lineB cs lo k) k := ⟨_, rfl⟩
  rw [← hR]
  have HR := Lib.hid hR
  clear hR h
  go_enter Tryz.func21, Tryz.ntmps21
  go_wp2_with fail
  have HB0 := below1 w (.cells #[.pointer (some ⟨b, 0, none⟩), .int .i64 lo, .int .i64 hi, .int .i64 tab] 41)
  have hv := VwI.made w b lo hi tab (T := 41)
  generalize w.alloc (.cells #[.pointer (some ⟨b, 0, none⟩), .int .i64 lo, .int .i64 hi, .int .i64 tab] 41) = W at *
  refine (vbegin (HH.out.up HB0) tab k hl.2.1 h2 h3).mono ?_
  rintro e w1 ⟨rfl, hb1⟩
  have HV := Lib.hid (hv.up hb1)
  have HB1 := Lib.hid (up2 HB0 hb1)
  clear hv hb1 HB0
  generalize lineB cs lo k = B at *
  go_wp2_with fail
  go_loopw [5, 6, 7, 8] (fun va vb vc vd wr => ∃ i : Nat, B ≤ i ∧ i ≤ k ∧ va = .int .i64 (colN widN cs tab B i) ∧ vb = .int .i64 i ∧ Below w.heap.size w wr ∧ Below w1.heap.size w1 wr) (fun _ vb _ _ _ => k + 1 - (intOf vb).toNat)
  case atStart => exact ⟨B, Nat.le_refl _, hB2, by rw [colN_self]; rfl, rfl, HB1.out, Below.refl _ w1⟩
  case round =>
    obtain ⟨i, i1, i2, rfl, rfl, hbw, hb1⟩ := hrel
    have HBW := Lib.hid hbw
    have HB2 := Lib.hid hb1
    have HVr := Lib.hid (HV.out.up hb1)
    clear hbw hb1
    by_cases hlt : i < k
    · have d1 : decide ((i : Int) < k) = true := decide_eq_true (by omega)
      have HC := Lib.hid (bchar (HH.out.up HBW.out) i (by omega) (by omega))
      have HN := Lib.hid (chr_isN HH.out i (by omega) (by omega))
      have v0 := HVr.out.c0
      have v3 := fun w' (hb : Below wr.heap.size wr w') => (HVr.out.up hb).c3
      have HV3 := Lib.hid v3
      clear v3
      have hsm := colN_small (cs := cs) ht2 B i i1 (by omega)
      have hsu : colN widN cs tab B (i + 1) = _ := colN_succ B i i1
      have HSU := Lib.hid hsu
      clear hsu
      generalize colN widN cs tab B i = C at *
      generalize chr cs i = c at *
      have s1 : IntKind.i64.wrap ((i : Int) + 1) = ((i + 1 : Nat) : Int) := by rw [IntWalk.i64_in _ (by omega)]; omega
      go_wp2_with fail
      refine HC.out.mono ?_
      rintro e w2 ⟨rfl, hb2⟩
      have v3 := HV3.out w2 hb2
      have HB3 := Lib.hid hb2
      clear hb2
      go_wp2_with fail
      refine (after_ok C c tab HN.out ht1 ht2 hsm w2).mono ?_
      rintro e w3 ⟨rfl, hb3⟩
      have HB4 := Lib.hid hb3
      clear hb3 v3
      go_wp2_with fail
      go_roundw
      case rel => exact ⟨i + 1, by omega, by omega, by rw [HSU.out], by first | rfl | go_num, up2 HBW.out (up2 HB3.out HB4.out), up2 HB2.out (up2 HB3.out HB4.out)⟩
      case measure => simp [intOf]; omega
    · have d1 : decide ((i : Int) < k) = false := decide_eq_false (by omega)
      have hik : i = k := by omega
      go_wp2_with fail
      go_ret
      exact ⟨by rw [HR.out, hik]; rfl, HBW.out⟩
set_option maxHeartbeats 2000000 in
theorem vseek (h : BufR w b cs pt lo hi) (tab k col : Nat) (ht1 : 1 ≤ tab) (ht2 : tab ≤ 64) (h2 : lo ≤ k) (h3 : k ≤ hi) :
    Calls Tryz.prog 22 #[vwV b lo hi tab, .int .i64 k, .int .i64 col] w fun e w' => e = .returned (.tuple #[.int .i64 (seekN widN cs tab (lineB cs lo k) (lineE cs hi k) col : Nat), .int .i64 (colN widN cs tab (lineB cs lo k) (seekN widN cs tab (lineB cs lo k) (lineE cs hi k) col) : Nat)]) ∧ Below w.heap.size w w' := by
  have hl := h.len
  have HH := Lib.hid h
  have hB1 : lo ≤ lineB cs lo k := lineB_ge k
  have hB2 : lineB cs lo k ≤ k := lineB_le k h2
  have hE1 : k ≤ lineE cs hi k := lineE_ge k
  have hE2 : lineE cs hi k ≤ hi := lineE_le k h3
  obtain ⟨R, hR⟩ : ∃ R, R = seekN widN cs tab (lineB cs lo k) (lineE cs hi k) col := ⟨_, rfl⟩
  rw [← hR]
  have HR := Lib.hid hR
  obtain ⟨D, hD⟩ : ∃ D, D = colN widN cs tab (lineB cs lo k) R := ⟨_, rfl⟩
  rw [← hD]
  have HD := Lib.hid hD
  clear hR hD h
  go_enter Tryz.func22, Tryz.ntmps22
  go_wp2_with fail
  have HB0 := below1 w (.cells #[.pointer (some ⟨b, 0, none⟩), .int .i64 lo, .int .i64 hi, .int .i64 tab] 41)
  have hv := VwI.made w b lo hi tab (T := 41)
  generalize w.alloc (.cells #[.pointer (some ⟨b, 0, none⟩), .int .i64 lo, .int .i64 hi, .int .i64 tab] 41) = W at *
  have v0 := fun (x : UpW W.heap.size W) => (hv.up x.up).c0
  have v1 := fun (x : UpW W.heap.size W) => (hv.up x.up).c1
  have v2 := fun (x : UpW W.heap.size W) => (hv.up x.up).c2
  have v3 := fun (x : UpW W.heap.size W) => (hv.up x.up).c3
  refine wp_region_up W.heap.size (by kernel_rfl) (by kernel_rfl) ?_
  repeat (go_big_quiet_step (first | exact Calls.up ‹_› (Nat.le_refl _) (vbegin ((HH.out.up HB0).up (UpW.up ‹_›)) tab k hl.2.1 h2 h3) | exact Calls.up ‹_› (Nat.le_refl _) (vend ((HH.out.up HB0).up (UpW.up ‹_›)) tab k (by omega) h3)))
  refine wpQuiet_nil ?_
  rintro ⟨w1, hb1⟩
  dsimp only
  have HV := Lib.hid (hv.up hb1)
  have HB1 := Lib.hid (up2 HB0 hb1)
  clear hv v0 v1 v2 v3 HB0 hb1
  generalize lineB cs lo k = B at *
  generalize lineE cs hi k = E at *
  go_wp2_with fail
  go_loopw [8, 10, 11, 12] (fun va vb vc vd wr => ∃ i : Nat, B ≤ i ∧ i ≤ E ∧ (∀ j, B ≤ j → j < i → colN widN cs tab B j < col) ∧ va = .int .i64 i ∧ vb = .int .i64 (colN widN cs tab B i) ∧ Below w.heap.size w wr ∧ Below w1.heap.size w1 wr) (fun va _ _ _ _ => E + 1 - (intOf va).toNat)
  case atStart => exact ⟨B, Nat.le_refl _, by omega, fun j h h2 => by omega, rfl, by rw [colN_self]; rfl, HB1.out, Below.refl _ w1⟩
  case round =>
    obtain ⟨i, i1, i2, i3, rfl, rfl, hbw, hb1⟩ := hrel
    have HBW := Lib.hid hbw
    have HI3 := Lib.hid i3
    have HB2 := Lib.hid hb1
    have HVr := Lib.hid (HV.out.up hb1)
    have hsm := colN_small (cs := cs) ht2 B i i1 (by omega)
    have hsu : colN widN cs tab B (i + 1) = _ := colN_succ B i i1
    have HSU := Lib.hid hsu
    clear hbw hb1 i3 hsu
    obtain ⟨C, hC⟩ : ∃ C, C = colN widN cs tab B i := ⟨_, rfl⟩
    rw [← hC] at hsm HSU
    rw [← hC]
    have HCC := Lib.hid hC
    clear hC
    by_cases hcol : C < col
    · have d0 : decide ((C : Int) < col) = true := decide_eq_true (by omega)
      by_cases hlt : i < E
      · have d1 : decide ((i : Int) < E) = true := decide_eq_true (by omega)
        have HC := Lib.hid (bchar (HH.out.up HBW.out) i (by omega) (by omega))
        have HN := Lib.hid (chr_isN HH.out i (by omega) (by omega))
        have v0 := HVr.out.c0
        have v3 := fun w' (hb : Below wr.heap.size wr w') => (HVr.out.up hb).c3
        have HV3 := Lib.hid v3
        clear v3
        generalize chr cs i = c at *
        have s1 : IntKind.i64.wrap ((i : Int) + 1) = ((i + 1 : Nat) : Int) := by rw [IntWalk.i64_in _ (by omega)]; omega
        go_wp2_with fail
        refine HC.out.mono ?_
        rintro e w2 ⟨rfl, hb2⟩
        have v3 := HV3.out w2 hb2
        have HB3 := Lib.hid hb2
        clear hb2
        go_wp2_with fail
        refine (after_ok C c tab HN.out ht1 ht2 hsm w2).mono ?_
        rintro e w3 ⟨rfl, hb3⟩
        have HB4 := Lib.hid hb3
        clear hb3 v3
        go_wp2_with fail
        go_roundw
        case rel =>
          refine ⟨i + 1, by omega, by omega, fun j hj hj2 => ?_, by first | rfl | go_num, by rw [HSU.out], up2 HBW.out (up2 HB3.out HB4.out), up2 HB2.out (up2 HB3.out HB4.out)⟩
          by_cases e : j = i
          · rw [e, ← HCC.out]; exact hcol
          · exact HI3.out j hj (by omega)
        case measure => simp [intOf]; omega
      · have d1 : decide ((i : Int) < E) = false := decide_eq_false (by omega)
        obtain rfl : i = R := (HR.out.trans (seekN_eq B E col i (by omega) i1 i2 HI3.out (.inl (by omega)))).symm
        go_wp2_with fail
        go_ret2
        exact ⟨by rw [HD.out, HCC.out]; rfl, HBW.out⟩
    · have d0 : decide ((C : Int) < col) = false := decide_eq_false (by omega)
      obtain rfl : i = R := (HR.out.trans (seekN_eq B E col i (by omega) i1 i2 HI3.out (.inr (by rw [← HCC.out]; omega)))).symm
      go_wp2_with fail
      go_ret2
      exact ⟨by rw [HD.out, HCC.out]; rfl, HBW.out⟩
end
end Go.Proofs.YtklaeecegkpgmaaGreatDoor
/- package column: the view's lines. -/
namespace Go.Proofs.YtklaeecegkpgmaaGreatDoor
open Go.RowKit
set_option linter.unusedVariables false
set_option linter.unusedSimpArgs false
/-- Where moving n lines forward leads, and how many lines there were not. -/
def linesF (cs : List Nat) (lo hi n k : Nat) : Nat × Nat := if (fwdN cs hi n k).2 = 0 then (lineB cs lo (fwdN cs hi n k).1, 0) else fwdN cs hi n k
section
variable {w w' : World} {v b pt lo hi tab : Nat} {cs : List Nat}
set_option maxHeartbeats 2000000 in
theorem vlines_fwd (h : BufR w b cs pt lo hi) (tab k n : Nat) (hn : n ≤ 1000000) (h2 : lo ≤ k) (h3 : k ≤ hi) :
    Calls Tryz.prog 23 #[vwV b lo hi tab, .int .i64 k, .int .i64 n] w fun e w' => e = .returned (.tuple #[.int .i64 (linesF cs lo hi n k).1, .int .i64 (linesF cs lo hi n k).2]) ∧ Below w.heap.size w w' := by
  have hl := h.len
  have HH := Lib.hid h
  obtain ⟨R, hR⟩ : ∃ R, R = linesF cs lo hi n k := ⟨_, rfl⟩
  rw [← hR]
  have HR := Lib.hid hR
  clear hR h
  go_enter Tryz.func23, Tryz.ntmps23
  go_wp2_with fail
  have HB0 := Lib.hid (below1 w (.cells #[.pointer (some ⟨b, 0, none⟩), .int .i64 lo, .int .i64 hi, .int .i64 tab] 41))
  have hv := Lib.hid (VwI.made w b lo hi tab (T := 41))
  generalize w.alloc (.cells #[.pointer (some ⟨b, 0, none⟩), .int .i64 lo, .int .i64 hi, .int .i64 tab] 41) = W at *
  go_loopw [1, 2] (fun va vb wr => ∃ i m : Nat, lo ≤ i ∧ i ≤ hi ∧ m ≤ n ∧ va = .int .i64 i ∧ vb = .int .i64 m ∧ fwdN cs hi m i = fwdN cs hi n k ∧ Below W.heap.size W wr) (fun _ vb _ => (intOf vb).toNat)
  case atStart => exact ⟨k, n, h2, h3, Nat.le_refl _, rfl, rfl, rfl, Below.refl _ W⟩
  case round =>
    obtain ⟨i, m, i1, i2, i3, rfl, rfl, hf, hbw⟩ := hrel
    have HF := Lib.hid hf
    have HBW := Lib.hid hbw
    have HVr := Lib.hid (hv.out.up hbw)
    have HHr := Lib.hid ((HH.out.up HB0.out).up hbw)
    clear hf hbw
    cases m with
    | succ q =>
      have d0 : decide ((0 : Int) < ((q + 1 : Nat) : Int)) = true := decide_eq_true (by omega)
      have s1 : IntKind.i64.wrap (((q + 1 : Nat) : Int) - 1) = (q : Int) := by rw [IntWalk.i64_in _ (by omega)]; omega
      have v0 := HVr.out.c0
      have v1 := HVr.out.c1
      have v2 := HVr.out.c2
      have v3 := HVr.out.c3
      have HE := Lib.hid (vend HHr.out tab i (by omega) i2)
      have hE1 : i ≤ lineE cs hi i := lineE_ge i
      have hE2 : lineE cs hi i ≤ hi := lineE_le i i2
      have hf : (if lineE cs hi i = hi then (hi, q + 1) else fwdN cs hi q (lineE cs hi i + 1)) = fwdN cs hi n k := HF.out
      have HF2 := Lib.hid hf
      clear hf HF
      generalize lineE cs hi i = E at *
      go_wp2_with fail
      refine HE.out.mono ?_
      rintro e w1 ⟨rfl, hb1⟩
      have v2' := (HVr.out.up hb1).c2
      have HB1 := Lib.hid hb1
      clear hb1 v0 v1 v2 v3
      by_cases he : E = hi
      · have d1 : ((E : Int) == (hi : Int)) = true := by simp [he]
        have hff := HF2.out
        rw [if_pos he] at hff
        have hRR := HR.out
        unfold linesF at hRR
        have e0 : fwdN cs hi n k = (hi, q + 1) := hff.symm
        rw [e0, if_neg (by simp)] at hRR
        subst hRR
        clear hff HF2 HR
        go_wp2_with fail
        go_ret2
        subst he
        exact ⟨by first | rfl | go_num, up2 HB0.out (up2 HBW.out HB1.out)⟩
      · have d1 : ((E : Int) == (hi : Int)) = false := by simp; omega
        have hff := HF2.out
        rw [if_neg he] at hff
        have HF3 := Lib.hid hff
        have s2 : IntKind.i64.wrap ((E : Int) + 1) = ((E + 1 : Nat) : Int) := by rw [IntWalk.i64_in _ (by omega)]; omega
        clear hff HF2
        go_wp2_with fail
        go_roundw
        case rel => exact ⟨E + 1, q, by omega, by omega, by omega, by first | rfl | go_num, by first | rfl | go_num, HF3.out, up2 HBW.out HB1.out⟩
        case measure => simp [intOf]
    | zero =>
      have d0 : decide ((0 : Int) < ((0 : Nat) : Int)) = false := decide_eq_false (by omega)
      have hRR := HR.out
      unfold linesF at hRR
      have e0 : fwdN cs hi n k = (i, 0) := HF.out.symm
      rw [e0, if_pos rfl] at hRR
      have HRR := Lib.hid hRR
      clear HR HF e0 hRR
      have v0 := HVr.out.c0
      have v1 := HVr.out.c1
      have v2 := HVr.out.c2
      have v3 := HVr.out.c3
      have z0 : ((0 : Nat) : Int) = 0 := rfl
      rw [z0] at d0
      by_cases hgt : lo < i
      · have d1 : decide ((lo : Int) < (i : Int)) = true := decide_eq_true (by omega)
        have s3 : IntKind.i64.wrap ((i : Int) - 1) = ((i - 1 : Nat) : Int) := by rw [IntWalk.i64_in _ (by omega)]; omega
        have HC := Lib.hid (bchar HHr.out (i - 1) (by omega) (by omega))
        obtain ⟨c, hc⟩ : ∃ c, c = chr cs (i - 1) := ⟨_, rfl⟩
        rw [← hc] at HC
        by_cases h10 : c = 10
        · have d2 : ((c : Int) == (10 : Int)) = true := by simp [h10]
          have e2 : lineB cs lo i = i := lineB_eq i i (by omega) (Nat.le_refl _) (fun j h h2 => by omega) (.inr ⟨hgt, by rw [← hc]; exact h10⟩)
          have E2 := Lib.hid e2
          clear hc e2
          generalize i - 1 = p at *
          go_wp2_with fail
          refine HC.out.mono ?_
          rintro e w1 ⟨rfl, hb1⟩
          have HB1 := Lib.hid hb1
          clear hb1
          go_wp2_with fail
          go_ret2
          exact ⟨by rw [HRR.out, E2.out]; rfl, up2 HB0.out (up2 HBW.out HB1.out)⟩
        · have d2 : ((c : Int) == (10 : Int)) = false := by simp; omega
          clear hc
          generalize i - 1 = p at *
          go_wp2_with fail
          refine HC.out.mono ?_
          rintro e w1 ⟨rfl, hb1⟩
          have HB1 := Lib.hid hb1
          have v0' := (HVr.out.up hb1).c0
          have v1' := (HVr.out.up hb1).c1
          have v2' := (HVr.out.up hb1).c2
          have v3' := (HVr.out.up hb1).c3
          clear hb1 v0 v1 v2 v3
          go_wp2_with fail
          refine (vbegin (HHr.out.up HB1.out) tab i hl.2.1 i1 i2).mono ?_
          rintro e w2 ⟨rfl, hb2⟩
          have HB2 := Lib.hid hb2
          clear hb2 v0' v1' v2' v3'
          generalize lineB cs lo i = B at *
          go_wp2_with fail
          go_loopw [1, 2] (fun va vb wr => va = .int .i64 B ∧ vb = .int .i64 0 ∧ w2 = wr) (fun _ _ _ => 0)
          case atStart => exact ⟨rfl, rfl, rfl⟩
          case round =>
            obtain ⟨rfl, rfl, rfl⟩ := hrel
            go_wp2_with fail
            go_ret2
            exact ⟨by rw [HRR.out]; first | rfl | go_num, up2 HB0.out (up2 HBW.out (up2 HB1.out HB2.out))⟩
      · have d1 : decide ((lo : Int) < (i : Int)) = false := decide_eq_false (by omega)
        go_wp2_with fail
        refine (vbegin HHr.out tab i hl.2.1 i1 i2).mono ?_
        rintro e w2 ⟨rfl, hb2⟩
        have HB2 := Lib.hid hb2
        clear hb2 v0 v1 v2 v3
        generalize lineB cs lo i = B at *
        go_wp2_with fail
        go_loopw [1, 2] (fun va vb wr => va = .int .i64 B ∧ vb = .int .i64 0 ∧ w2 = wr) (fun _ _ _ => 0)
        case atStart => exact ⟨rfl, rfl, rfl⟩
        case round =>
          obtain ⟨rfl, rfl, rfl⟩ := hrel
          go_wp2_with fail
          go_ret2
          exact ⟨by rw [HRR.out]; first | rfl | go_num, up2 HB0.out (up2 HBW.out HB2.out)⟩
set_option maxHeartbeats 2000000 in
theorem vlines_back (h : BufR w b cs pt lo hi) (tab k n : Nat) (hn : n ≤ 1000000) (hn1 : 1 ≤ n) (h2 : lo ≤ k) (h3 : k ≤ hi) :
    Calls Tryz.prog 23 #[vwV b lo hi tab, .int .i64 k, .int .i64 (-(n : Int))] w fun e w' => e = .returned (.tuple #[.int .i64 (bwdN cs lo n (lineB cs lo k)).1, .int .i64 (bwdN cs lo n (lineB cs lo k)).2]) ∧ Below w.heap.size w w' := by
  have hl := h.len
  have HH := Lib.hid h
  obtain ⟨R, hR⟩ : ∃ R, R = bwdN cs lo n (lineB cs lo k) := ⟨_, rfl⟩
  rw [← hR]
  have HR := Lib.hid hR
  clear hR h
  have hB1 : lo ≤ lineB cs lo k := lineB_ge k
  have hB2 : lineB cs lo k ≤ k := lineB_le k h2
  go_enter Tryz.func23, Tryz.ntmps23
  go_wp2_with fail
  have HB0 := Lib.hid (below1 w (.cells #[.pointer (some ⟨b, 0, none⟩), .int .i64 lo, .int .i64 hi, .int .i64 tab] 41))
  have hv := Lib.hid (VwI.made w b lo hi tab (T := 41))
  generalize w.alloc (.cells #[.pointer (some ⟨b, 0, none⟩), .int .i64 lo, .int .i64 hi, .int .i64 tab] 41) = W at *
  go_loopw [1, 2] (fun va vb wr => va = .int .i64 k ∧ vb = .int .i64 (-(n : Int)) ∧ W = wr) (fun _ _ _ => 0)
  case atStart => exact ⟨rfl, rfl, rfl⟩
  case round =>
    obtain ⟨rfl, rfl, rfl⟩ := hrel
    have d0 : decide ((0 : Int) < -(n : Int)) = false := decide_eq_false (by omega)
    have d1 : (-(n : Int) == (0 : Int)) = false := by simp; omega
    have v0 := hv.out.c0
    have v1 := hv.out.c1
    have v2 := hv.out.c2
    have v3 := hv.out.c3
    go_wp2_with fail
    refine (vbegin (HH.out.up HB0.out) tab k hl.2.1 h2 h3).mono ?_
    rintro e w1 ⟨rfl, hb1⟩
    have HB1 := Lib.hid hb1
    clear hb1 v0 v1 v2 v3 d0 d1
    generalize lineB cs lo k = B at *
    go_wp2_with fail
    go_loopw [1, 2] (fun va vb wr => ∃ i m : Nat, lo ≤ i ∧ i ≤ hi ∧ m ≤ n ∧ va = .int .i64 i ∧ vb = .int .i64 (-(m : Int)) ∧ bwdN cs lo m i = R ∧ Below W.heap.size W wr) (fun _ vb _ => (- intOf vb).toNat)
    case atStart => exact ⟨B, n, hB1, by omega, Nat.le_refl _, rfl, rfl, HR.out.symm, HB1.out⟩
    case round =>
      obtain ⟨i, m, i1, i2, i3, rfl, rfl, hf, hbw⟩ := hrel
      have HBW := Lib.hid hbw
      have HVr := Lib.hid (hv.out.up hbw)
      have HHr := Lib.hid ((HH.out.up HB0.out).up hbw)
      cases m with
      | zero =>
        subst hf
        have z0 : -((0 : Nat) : Int) = 0 := rfl
        rw [z0]
        clear hbw HR
        go_wp2_with fail
        go_ret2
        exact ⟨by first | rfl | go_num, up2 HB0.out HBW.out⟩
      | succ q =>
        have hf2 : (if i = lo then (lo, q + 1) else bwdN cs lo q (lineB cs lo (i - 1))) = R := hf
        have HF := Lib.hid hf2
        clear hf hf2 hbw HR
        have d0 : decide (-((q + 1 : Nat) : Int) < 0) = true := decide_eq_true (by omega)
        have v0 := HVr.out.c0
        have v1 := HVr.out.c1
        have v2 := HVr.out.c2
        have v3 := HVr.out.c3
        have s1 : IntKind.i64.wrap (-((q + 1 : Nat) : Int) + 1) = -(q : Int) := by rw [IntWalk.i64_in _ (by omega)]; omega
        have s0 : IntKind.i64.wrap (- -((q + 1 : Nat) : Int)) = ((q + 1 : Nat) : Int) := by rw [IntWalk.i64_in _ (by omega)]; omega
        have d3 : (-((q + 1 : Nat) : Int) == (-9223372036854775808 : Int)) = false := by simp; omega
        by_cases he : i = lo
        · have hff := HF.out
          rw [if_pos he] at hff
          subst hff
          clear HF
          have d1 : ((i : Int) == (lo : Int)) = true := by simp [he]
          go_wp2_with fail
          go_ret2
          subst he
          exact ⟨by first | rfl | go_num, up2 HB0.out HBW.out⟩
        · have hff := HF.out
          rw [if_neg he] at hff
          have HF2 := Lib.hid hff
          clear hff HF
          have d1 : ((i : Int) == (lo : Int)) = false := by simp; omega
          have s3 : IntKind.i64.wrap ((i : Int) - 1) = ((i - 1 : Nat) : Int) := by rw [IntWalk.i64_in _ (by omega)]; omega
          have HBg := Lib.hid (vbegin HHr.out tab (i - 1) hl.2.1 (by omega) (by omega))
          have a1 : lo ≤ lineB cs lo (i - 1) := lineB_ge _
          have a2 : lineB cs lo (i - 1) ≤ i - 1 := lineB_le _ (by omega)
          have a3 : i - 1 ≤ hi := by omega
          generalize lineB cs lo (i - 1) = L at *
          generalize i - 1 = p at *
          go_wp2_with fail
          refine HBg.out.mono ?_
          rintro e w2 ⟨rfl, hb2⟩
          have HB2 := Lib.hid hb2
          clear hb2 v0 v1 v2 v3
          go_wp2_with fail
          go_roundw
          case rel => exact ⟨L, q, a1, by omega, by omega, by first | rfl | go_num, by first | rfl | go_num, HF2.out, up2 HBW.out HB2.out⟩
          case measure => simp [intOf]; omega
end
end Go.Proofs.YtklaeecegkpgmaaGreatDoor
/- package column: look, Begin, End, Column, Seek, Lines. -/
namespace Go.Proofs.YtklaeecegkpgmaaGreatDoor
open Go.RowKit
set_option linter.unusedVariables false
set_option linter.unusedSimpArgs false
section
variable {w w' : World} {v b pt lo hi tab : Nat} {cs : List Nat}
set_option maxHeartbeats 2000000 in
theorem look_ok (h : BufR w b cs pt lo hi) (tab k g cap : Nat) (hx : w.cell? ⟨g, 0, none⟩ = some (.int .i64 k)) (h2 : lo ≤ k) (h3 : k ≤ hi) :
    Calls Tryz.prog 17 #[.pointer (some ⟨b, 0, none⟩), .int .i64 tab, .bool true, .slice (some ⟨g, 0, none⟩) 1 cap] w fun e w' => e = .returned (.tuple #[vwV b lo hi tab, .int .i64 0]) ∧ Below w.heap.size w w' := by
  have hl := h.len
  have HH := Lib.hid h
  have hg := lt_of_cell hx
  clear h
  go_enter Tryz.func17, Tryz.ntmps17
  go_wp2_with fail
  have HB0 := Lib.hid (below1 w (.cells #[.pointer none, .int .i64 0, .int .i64 0, .int .i64 0] 41))
  have hblk := (MapKept.heap_alloc w (.cells #[.pointer none, .int .i64 0, .int .i64 0, .int .i64 0] 41)).1
  have hx2 := (World.cell?_of_block (w := w) (a := ⟨g, 0, none⟩) (HB0.out.block g hg)).trans hx
  have hsz : w.heap.size < (w.alloc (.cells #[.pointer none, .int .i64 0, .int .i64 0, .int .i64 0] 41)).heap.size := by simp
  generalize w.alloc (.cells #[.pointer none, .int .i64 0, .int .i64 0, .int .i64 0] 41) = W at *
  have HBf := Lib.hid hblk
  have HX := Lib.hid hx2
  clear hx hblk hx2
  refine (bpoint (HH.out.up HB0.out)).mono ?_
  rintro e w1 ⟨rfl, rfl⟩
  have d0 : ((pt : Int) == (0 : Int)) = false := by simp; omega
  go_wp2_with fail
  refine (breach (HH.out.up HB0.out)).mono ?_
  rintro e w1 ⟨rfl, hb1⟩
  have hblk := (hb1.block _ hsz).trans HBf.out
  have hx1 := (World.cell?_of_block (w := W) (a := ⟨g, 0, none⟩) (hb1.block g (lt_of_cell HX.out))).trans HX.out
  have HB1 := Lib.hid hb1
  have HK := Lib.hid hblk
  clear hb1 HBf HX d0 hblk
  have d1 : decide ((k : Int) < (lo : Int)) = false := decide_eq_false (by omega)
  have d2 : decide ((hi : Int) < (k : Int)) = false := decide_eq_false (by omega)
  go_wp2_with fail
  go_loopw [13, 32] (fun va vb wr => w1 = wr ∧ ∃ i : Nat, i ≤ 1 ∧ vb = .int .i64 i) (fun _ vb _ => 2 - (intOf vb).toNat)
  case atStart => exact ⟨rfl, 0, by omega, rfl⟩
  case round =>
    obtain ⟨rfl, i, hi1, rfl⟩ := hrel
    cases i with
    | zero =>
      go_wp2_with fail
      go_roundw
      case rel => exact ⟨trivial, 1, by omega, rfl⟩
      case measure => simp [intOf]
    | succ q =>
      obtain rfl : q = 0 := by omega
      have k0 : w1.cell? ⟨w.heap.size, 0, none⟩ = some (.pointer none) := by simp only [World.cell?, HK.out]; rfl
      have k1 : w1.cell? ⟨w.heap.size, 1, none⟩ = some (.int .i64 0) := by simp only [World.cell?, HK.out]; rfl
      have k2 : w1.cell? ⟨w.heap.size, 2, none⟩ = some (.int .i64 0) := by simp only [World.cell?, HK.out]; rfl
      have k3 : w1.cell? ⟨w.heap.size, 3, none⟩ = some (.int .i64 0) := by simp only [World.cell?, HK.out]; rfl
      have f0 : w1.frozen? ⟨w.heap.size, 0, none⟩ = false := by simp only [World.frozen?, HK.out]; rfl
      have f1 : w1.frozen? ⟨w.heap.size, 1, none⟩ = false := by simp only [World.frozen?, HK.out]; rfl
      have f2 : w1.frozen? ⟨w.heap.size, 2, none⟩ = false := by simp only [World.frozen?, HK.out]; rfl
      have f3 : w1.frozen? ⟨w.heap.size, 3, none⟩ = false := by simp only [World.frozen?, HK.out]; rfl
      clear hx1
      go_wp2_with fail
      refine bodyPost_ret (v := .tuple #[vwV b lo hi tab, .int .i64 0]) (by simp [results, Tryz.f17, go_sem, k0, k1, k2, k3, f0, f1, f2, f3]) rfl ⟨rfl, ?_⟩
      exact ((((up2 HB0.out HB1.out).setCell (Nat.le_refl _) _).setCell (Nat.le_refl _) _).setCell (Nat.le_refl _) _).setCell (Nat.le_refl _) _
end
end Go.Proofs.YtklaeecegkpgmaaGreatDoor
