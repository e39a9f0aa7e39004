import Derived.Test.YtnbccoelbfgmgaaGreatDoorZ03
import Derived.Test.YtnbccoelbfgmgaaGreatDoorZ01
/- package column: the view's lines. -/
namespace Go.Proofs.YtnbccoelbfgmgaaGreatDoor
open Go.RowKit
set_option linter.unusedVariables false
set_option linter.unusedSimpArgs false
/-- Where moving n lines forward leads, and how many lines there were not. -/
def linesF (cs : List Nat) (lo hi n k : Nat) : Nat × Nat := if (fwdN cs hi n k).2 = 0 then (lineB cs lo (fwdN cs hi n k).1, 0) else fwdN cs hi n k
section
variable {w w' : World} {v b pt lo hi tab : Nat} {cs : List Nat}
set_option maxHeartbeats 2000000 in
theorem vlines_fwd (h : BufR w b cs pt lo hi) (tab k n : Nat) (hn : n ≤ 1000000) (h2 : lo ≤ k) (h3 : k ≤ hi) :
    Calls Tryz.prog 127 #[vwV b lo hi tab, .int .i64 k, .int .i64 n] w fun e w' => e = .returned (.tuple #[.int .i64 (linesF cs lo hi n k).1, .int .i64 (linesF cs lo hi n k).2]) ∧ Below w.heap.size w w' := by
  have hl := h.len
  have HH := Lib.hid h
  obtain ⟨R, hR⟩ : ∃ R, R = linesF cs lo hi n k := ⟨_, rfl⟩
  rw [← hR]
  have HR := Lib.hid hR
  clear hR h
  go_enter Tryz.func127, Tryz.ntmps127
  go_wp2_with fail
  have HB0 := Lib.hid (below1 w (.cells #[.pointer (some ⟨b, 0, none⟩), .int .i64 lo, .int .i64 hi, .int .i64 tab] 109))
  have hv := Lib.hid (VwI.made w b lo hi tab (T := 109))
  generalize w.alloc (.cells #[.pointer (some ⟨b, 0, none⟩), .int .i64 lo, .int .i64 hi, .int .i64 tab] 109) = W at *
  go_loopw [1, 2] (fun va vb wr => ∃ i m : Nat, lo ≤ i ∧ i ≤ hi ∧ m ≤ n ∧ va = .int .i64 i ∧ vb = .int .i64 m ∧ fwdN cs hi m i = fwdN cs hi n k ∧ Below W.heap.size W wr) (fun _ vb _ => (intOf vb).toNat)
  case atStart => exact ⟨k, n, h2, h3, Nat.le_refl _, rfl, rfl, rfl, Below.refl _ W⟩
  case round =>
    obtain ⟨i, m, i1, i2, i3, rfl, rfl, hf, hbw⟩ := hrel
    have HF := Lib.hid hf
    have HBW := Lib.hid hbw
    have HVr := Lib.hid (hv.out.up hbw)
    have HHr := Lib.hid ((HH.out.up HB0.out).up hbw)
    clear hf hbw
    cases m with
    | succ q =>
      have d0 : decide ((0 : Int) < ((q + 1 : Nat) : Int)) = true := decide_eq_true (by omega)
      have s1 : IntKind.i64.wrap (((q + 1 : Nat) : Int) - 1) = (q : Int) := by rw [IntWalk.i64_in _ (by omega)]; omega
      have v0 := HVr.out.c0
      have v1 := HVr.out.c1
      have v2 := HVr.out.c2
      have v3 := HVr.out.c3
      have HE := Lib.hid (vend HHr.out tab i (by omega) i2)
      have hE1 : i ≤ lineE cs hi i := lineE_ge i
      have hE2 : lineE cs hi i ≤ hi := lineE_le i i2
      have hf : (if lineE cs hi i = hi then (hi, q + 1) else fwdN cs hi q (lineE cs hi i + 1)) = fwdN cs hi n k := HF.out
      have HF2 := Lib.hid hf
      clear hf HF
      generalize lineE cs hi i = E at *
      go_wp2_with fail
      refine HE.out.mono ?_
      rintro e w1 ⟨rfl, hb1⟩
      have v2' := (HVr.out.up hb1).c2
      have HB1 := Lib.hid hb1
      clear hb1 v0 v1 v2 v3
      by_cases he : E = hi
      · have d1 : ((E : Int) == (hi : Int)) = true := by simp [he]
        have hff := HF2.out
        rw [if_pos he] at hff
        have hRR := HR.out
        unfold linesF at hRR
        have e0 : fwdN cs hi n k = (hi, q + 1) := hff.symm
        rw [e0, if_neg (by simp)] at hRR
        subst hRR
        clear hff HF2 HR
        go_wp2_with fail
        go_ret2
        subst he
        exact ⟨by first | rfl | go_num, up2 HB0.out (up2 HBW.out HB1.out)⟩
      · have d1 : ((E : Int) == (hi : Int)) = false := by simp; omega
        have hff := HF2.out
        rw [if_neg he] at hff
        have HF3 := Lib.hid hff
        have s2 : IntKind.i64.wrap ((E : Int) + 1) = ((E + 1 : Nat) : Int) := by rw [IntWalk.i64_in _ (by omega)]; omega
        clear hff HF2
        go_wp2_with fail
        go_roundw
        case rel => exact ⟨E + 1, q, by omega, by omega, by omega, by first | rfl | go_num, by first | rfl | go_num, HF3.out, up2 HBW.out HB1.out⟩
        case measure => simp [intOf]
    | zero =>
      have d0 : decide ((0 : Int) < ((0 : Nat) : Int)) = false := decide_eq_false (by omega)
      have hRR := HR.out
      unfold linesF at hRR
      have e0 : fwdN cs hi n k = (i, 0) := HF.out.symm
      rw [e0, if_pos rfl] at hRR
      have HRR := Lib.hid hRR
      clear HR HF e0 hRR
      have v0 := HVr.out.c0
      have v1 := HVr.out.c1
      have v2 := HVr.out.c2
      have v3 := HVr.out.c3
      have z0 : ((0 : Nat) : Int) = 0 := rfl
      rw [z0] at d0
      by_cases hgt : lo < i
      · have d1 : decide ((lo : Int) < (i : Int)) = true := decide_eq_true (by omega)
        have s3 : IntKind.i64.wrap ((i : Int) - 1) = ((i - 1 : Nat) : Int) := by rw [IntWalk.i64_in _ (by omega)]; omega
        have HC := Lib.hid (bchar HHr.out (i - 1) (by omega) (by omega))
        obtain ⟨c, hc⟩ : ∃ c, c = chr cs (i - 1) := ⟨_, rfl⟩
        rw [← hc] at HC
        by_cases h10 : c = 10
        · have d2 : ((c : Int) == (10 : Int)) = true := by simp [h10]
          have e2 : lineB cs lo i = i := lineB_eq i i (by omega) (Nat.le_refl _) (fun j h h2 => by omega) (.inr ⟨hgt, by rw [← hc]; exact h10⟩)
          have E2 := Lib.hid e2
          clear hc e2
          generalize i - 1 = p at *
          go_wp2_with fail
          refine HC.out.mono ?_
          rintro e w1 ⟨rfl, hb1⟩
          have HB1 := Lib.hid hb1
          clear hb1
          go_wp2_with fail
          go_ret2
          exact ⟨by rw [HRR.out, E2.out]; rfl, up2 HB0.out (up2 HBW.out HB1.out)⟩
        · have d2 : ((c : Int) == (10 : Int)) = false := by simp; omega
          clear hc
          generalize i - 1 = p at *
          go_wp2_with fail
          refine HC.out.mono ?_
          rintro e w1 ⟨rfl, hb1⟩
          have HB1 := Lib.hid hb1
          have v0' := (HVr.out.up hb1).c0
          have v1' := (HVr.out.up hb1).c1
          have v2' := (HVr.out.up hb1).c2
          have v3' := (HVr.out.up hb1).c3
          clear hb1 v0 v1 v2 v3
          go_wp2_with fail
          refine (vbegin (HHr.out.up HB1.out) tab i hl.2.1 i1 i2).mono ?_
          rintro e w2 ⟨rfl, hb2⟩
          have HB2 := Lib.hid hb2
          clear hb2 v0' v1' v2' v3'
          generalize lineB cs lo i = B at *
          go_wp2_with fail
          go_loopw [1, 2] (fun va vb wr => va = .int .i64 B ∧ vb = .int .i64 0 ∧ w2 = wr) (fun _ _ _ => 0)
          case atStart => exact ⟨rfl, rfl, rfl⟩
          case round =>
            obtain ⟨rfl, rfl, rfl⟩ := hrel
            go_wp2_with fail
            go_ret2
            exact ⟨by rw [HRR.out]; first | rfl | go_num, up2 HB0.out (up2 HBW.out (up2 HB1.out HB2.out))⟩
      · have d1 : decide ((lo : Int) < (i : Int)) = false := decide_eq_false (by omega)
        go_wp2_with fail
        refine (vbegin HHr.out tab i hl.2.1 i1 i2).mono ?_
        rintro e w2 ⟨rfl, hb2⟩
        have HB2 := Lib.hid hb2
        clear hb2 v0 v1 v2 v3
        generalize lineB cs lo i = B at *
        go_wp2_with fail
        go_loopw [1, 2] (fun va vb wr => va = .int .i64 B ∧ vb = .int .i64 0 ∧ w2 = wr) (fun _ _ _ => 0)
        case atStart => exact ⟨rfl, rfl, rfl⟩
        case round =>
          obtain ⟨rfl, rfl, rfl⟩ := hrel
          go_wp2_with fail
          go_ret2
          exact ⟨by rw [HRR.out]; first | rfl | go_num, up2 HB0.out (up2 HBW.out HB2.out)⟩
set_option maxHeartbeats 2000000 in
theorem vlines_back (h : BufR w b cs pt lo hi) (tab k n : Nat) (hn : n ≤ 1000000) (hn1 : 1 ≤ n) (h2 : lo ≤ k) (h3 : k ≤ hi) :
    Calls Tryz.prog 127 #[vwV b lo hi tab, .int .i64 k, .int .i64 (-(n : Int))] w fun e w' => e = .returned (.tuple #[.int .i64 (bwdN cs lo n (lineB cs lo k)).1, .int .i64 (bwdN cs lo n (lineB cs lo k)).2]) ∧ Below w.heap.size w w' := by
  have hl := h.len
  have HH := Lib.hid h
  obtain ⟨R, hR⟩ : ∃ R, R = bwdN cs lo n (lineB cs lo k) := ⟨_, rfl⟩
  rw [← hR]
  have HR := Lib.hid hR
  clear hR h
  have hB1 : lo ≤ lineB cs lo k := lineB_ge k
  have hB2 : lineB cs lo k ≤ k := lineB_le k h2
  go_enter Tryz.func127, Tryz.ntmps127
  go_wp2_with fail
  have HB0 := Lib.hid (below1 w (.cells #[.pointer (some ⟨b, 0, none⟩), .int .i64 lo, .int .i64 hi, .int .i64 tab] 109))
  have hv := Lib.hid (VwI.made w b lo hi tab (T := 109))
  generalize w.alloc (.cells #[.pointer (some ⟨b, 0, none⟩), .int .i64 lo, .int .i64 hi, .int .i64 tab] 109) = W at *
  go_loopw [1, 2] (fun va vb wr => va = .int .i64 k ∧ vb = .int .i64 (-(n : Int)) ∧ W = wr) (fun _ _ _ => 0)
  case atStart => exact ⟨rfl, rfl, rfl⟩
  case round =>
    obtain ⟨rfl, rfl, rfl⟩ := hrel
    have d0 : decide ((0 : Int) < -(n : Int)) = false := decide_eq_false (by omega)
    have d1 : (-(n : Int) == (0 : Int)) = false := by simp; omega
    have v0 := hv.out.c0
    have v1 := hv.out.c1
    have v2 := hv.out.c2
    have v3 := hv.out.c3
    go_wp2_with fail
    refine (vbegin (HH.out.up HB0.out) tab k hl.2.1 h2 h3).mono ?_
    rintro e w1 ⟨rfl, hb1⟩
    have HB1 := Lib.hid hb1
    clear hb1 v0 v1 v2 v3 d0 d1
    generalize lineB cs lo k = B at *
    go_wp2_with fail
    go_loopw [1, 2] (fun va vb wr => ∃ i m : Nat, lo ≤ i ∧ i ≤ hi ∧ m ≤ n ∧ va = .int .i64 i ∧ vb = .int .i64 (-(m : Int)) ∧ bwdN cs lo m i = R ∧ Below W.heap.size W wr) (fun _ vb _ => (- intOf vb).toNat)
    case atStart => exact ⟨B, n, hB1, by omega, Nat.le_refl _, rfl, rfl, HR.out.symm, HB1.out⟩
    case round =>
      obtain ⟨i, m, i1, i2, i3, rfl, rfl, hf, hbw⟩ := hrel
      have HBW := Lib.hid hbw
      have HVr := Lib.hid (hv.out.up hbw)
      have HHr := Lib.hid ((HH.out.up HB0.out).up hbw)
      cases m with
      | zero =>
        subst hf
        have z0 : -((0 : Nat) : Int) = 0 := rfl
        rw [z0]
        clear hbw HR
        go_wp2_with fail
        go_ret2
        exact ⟨by first | rfl | go_num, up2 HB0.out HBW.out⟩
      | succ q =>
        have hf2 : (if i = lo then (lo, q + 1) else bwdN cs lo q (lineB cs lo (i - 1))) = R := hf
        have HF := Lib.hid hf2
        clear hf hf2 hbw HR
        have d0 : decide (-((q + 1 : Nat) : Int) < 0) = true := decide_eq_true (by omega)
        have v0 := HVr.out.c0
        have v1 := HVr.out.c1
        have v2 := HVr.out.c2
        have v3 := HVr.out.c3
        have s1 : IntKind.i64.wrap (-((q + 1 : Nat) : Int) + 1) = -(q : Int) := by rw [IntWalk.i64_in _ (by omega)]; omega
        have s0 : IntKind.i64.wrap (- -((q + 1 : Nat) : Int)) = ((q + 1 : Nat) : Int) := by rw [IntWalk.i64_in _ (by omega)]; omega
        have d3 : (-((q + 1 : Nat) : Int) == (-9223372036854775808 : Int)) = false := by simp; omega
        by_cases he : i = lo
        · have hff := HF.out
          rw [if_pos he] at hff
          subst hff
          clear HF
          have d1 : ((i : Int) == (lo : Int)) = true := by simp [he]
          go_wp2_with fail
          go_ret2
          subst he
          exact ⟨by first | rfl | go_num, up2 HB0.out HBW.out⟩
        · have hff := HF.out
          rw [if_neg he] at hff
          have HF2 := Lib.hid hff
          clear hff HF
          have d1 : ((i : Int) == (lo : Int)) = false := by simp; omega
          have s3 : IntKind.i64.wrap ((i : Int) - 1) = ((i - 1 : Nat) : Int) := by rw [IntWalk.i64_in _ (by omega)]; omega
          have HBg := Lib.hid (vbegin HHr.out tab (i - 1) hl.2.1 (by omega) (by omega))
          have a1 : lo ≤ lineB cs lo (i - 1) := lineB_ge _
          have a2 : lineB cs lo (i - 1) ≤ i - 1 := lineB_le _ (by omega)
          have a3 : i - 1 ≤ hi := by omega
          generalize lineB cs lo (i - 1) = L at *
          generalize i - 1 = p at *
          go_wp2_with fail
          refine HBg.out.mono ?_
          rintro e w2 ⟨rfl, hb2⟩
          have HB2 := Lib.hid hb2
          clear hb2 v0 v1 v2 v3
          go_wp2_with fail
          go_roundw
          case rel => exact ⟨L, q, a1, by omega, by omega, by first | rfl | go_num, by first | rfl | go_num, HF2.out, up2 HBW.out HB2.out⟩
          case measure => simp [intOf]; omega
end
end Go.Proofs.YtnbccoelbfgmgaaGreatDoor
/- package column: look, Begin, End, Column, Seek, Lines. -/
namespace Go.Proofs.YtnbccoelbfgmgaaGreatDoor
open Go.RowKit
set_option linter.unusedVariables false
set_option linter.unusedSimpArgs false
section
variable {w w' : World} {v b pt lo hi tab : Nat} {cs : List Nat}
set_option maxHeartbeats 2000000 in
theorem look_ok (h : BufR w b cs pt lo hi) (tab k g cap : Nat) (hx : w.cell? ⟨g, 0, none⟩ = some (.int .i64 k)) (h2 : lo ≤ k) (h3 : k ≤ hi) :
    Calls Tryz.prog 62 #[.pointer (some ⟨b, 0, none⟩), .int .i64 tab, .bool true, .slice (some ⟨g, 0, none⟩) 1 cap] w fun e w' => e = .returned (.tuple #[vwV b lo hi tab, .int .i64 0]) ∧ Below w.heap.size w w' := by
  have hl := h.len
  have HH := Lib.hid h
  have hg := lt_of_cell hx
  clear h
  go_enter Tryz.func62, Tryz.ntmps62
  go_wp2_with fail
  have HB0 := Lib.hid (below1 w (.cells #[.pointer none, .int .i64 0, .int .i64 0, .int .i64 0] 109))
  have hblk := (MapKept.heap_alloc w (.cells #[.pointer none, .int .i64 0, .int .i64 0, .int .i64 0] 109)).1
  have hx2 := (World.cell?_of_block (w := w) (a := ⟨g, 0, none⟩) (HB0.out.block g hg)).trans hx
  have hsz : w.heap.size < (w.alloc (.cells #[.pointer none, .int .i64 0, .int .i64 0, .int .i64 0] 109)).heap.size := by simp
  generalize w.alloc (.cells #[.pointer none, .int .i64 0, .int .i64 0, .int .i64 0] 109) = W at *
  have HBf := Lib.hid hblk
  have HX := Lib.hid hx2
  clear hx hblk hx2
  refine (bpoint (HH.out.up HB0.out)).mono ?_
  rintro e w1 ⟨rfl, rfl⟩
  have d0 : ((pt : Int) == (0 : Int)) = false := by simp; omega
  go_wp2_with fail
  refine (breach (HH.out.up HB0.out)).mono ?_
  rintro e w1 ⟨rfl, hb1⟩
  have hblk := (hb1.block _ hsz).trans HBf.out
  have hx1 := (World.cell?_of_block (w := W) (a := ⟨g, 0, none⟩) (hb1.block g (lt_of_cell HX.out))).trans HX.out
  have HB1 := Lib.hid hb1
  have HK := Lib.hid hblk
  clear hb1 HBf HX d0 hblk
  have d1 : decide ((k : Int) < (lo : Int)) = false := decide_eq_false (by omega)
  have d2 : decide ((hi : Int) < (k : Int)) = false := decide_eq_false (by omega)
  go_wp2_with fail
  go_loopw [13, 32] (fun va vb wr => w1 = wr ∧ ∃ i : Nat, i ≤ 1 ∧ vb = .int .i64 i) (fun _ vb _ => 2 - (intOf vb).toNat)
  case atStart => exact ⟨rfl, 0, by omega, rfl⟩
  case round =>
    obtain ⟨rfl, i, hi1, rfl⟩ := hrel
    cases i with
    | zero =>
      go_wp2_with fail
      go_roundw
      case rel => exact ⟨trivial, 1, by omega, rfl⟩
      case measure => simp [intOf]
    | succ q =>
      obtain rfl : q = 0 := by omega
      have k0 : w1.cell? ⟨w.heap.size, 0, none⟩ = some (.pointer none) := by simp only [World.cell?, HK.out]; rfl
      have k1 : w1.cell? ⟨w.heap.size, 1, none⟩ = some (.int .i64 0) := by simp only [World.cell?, HK.out]; rfl
      have k2 : w1.cell? ⟨w.heap.size, 2, none⟩ = some (.int .i64 0) := by simp only [World.cell?, HK.out]; rfl
      have k3 : w1.cell? ⟨w.heap.size, 3, none⟩ = some (.int .i64 0) := by simp only [World.cell?, HK.out]; rfl
      have f0 : w1.frozen? ⟨w.heap.size, 0, none⟩ = false := by simp only [World.frozen?, HK.out]; rfl
      have f1 : w1.frozen? ⟨w.heap.size, 1, none⟩ = false := by simp only [World.frozen?, HK.out]; rfl
      have f2 : w1.frozen? ⟨w.heap.size, 2, none⟩ = false := by simp only [World.frozen?, HK.out]; rfl
      have f3 : w1.frozen? ⟨w.heap.size, 3, none⟩ = false := by simp only [World.frozen?, HK.out]; rfl
      clear hx1
      go_wp2_with fail
      refine bodyPost_ret (v := .tuple #[vwV b lo hi tab, .int .i64 0]) (by simp [results, Tryz.f62, go_sem, k0, k1, k2, k3, f0, f1, f2, f3]) rfl ⟨rfl, ?_⟩
      exact ((((up2 HB0.out HB1.out).setCell (Nat.le_refl _) _).setCell (Nat.le_refl _) _).setCell (Nat.le_refl _) _).setCell (Nat.le_refl _) _
end
end Go.Proofs.YtnbccoelbfgmgaaGreatDoor
/- package column: Begin, End, Column, Seek, Lines. -/
namespace Go.Proofs.YtnbccoelbfgmgaaGreatDoor
open Go.RowKit
set_option linter.unusedVariables false
set_option linter.unusedSimpArgs false
theorem cell_new (w : World) (c : Value) (cs : Array Value) (T : TypeId) : True := trivial
section
variable {w w' : World} {v b pt lo hi tab : Nat} {cs : List Nat}
set_option maxHeartbeats 2000000 in
theorem begin_ok (h : BufR w b cs pt lo hi) (k : Nat) (h2 : lo ≤ k) (h3 : k ≤ hi) :
    Calls Tryz.prog 30 #[.pointer (some ⟨b, 0, none⟩), .int .i64 k] w fun e w' => e = .returned (.tuple #[.int .i64 (lineB cs lo k), .int .i64 0]) ∧ Below w.heap.size w w' := by
  have hl := h.len
  have HH := Lib.hid h
  clear h
  go_enter Tryz.func30, Tryz.ntmps30
  go_wp2_with fail
  have HB0 := Lib.hid (below1 w (.cells #[.int .i64 k] 3))
  have hc := (MapKept.heap_alloc w (.cells #[.int .i64 k] 3)).1
  generalize w.alloc (.cells #[.int .i64 k] 3) = W at *
  refine (look_ok (HH.out.up HB0.out) 0 k w.heap.size 1 (by simp only [World.cell?, hc]; rfl) h2 h3).mono ?_
  rintro e w1 ⟨rfl, hb1⟩
  have HB1 := Lib.hid (up2 HB0.out hb1)
  clear hb1 hc HB0
  go_wp2_with fail
  have HB2 := below1 w1 (.cells #[.pointer (some ⟨b, 0, none⟩), .int .i64 lo, .int .i64 hi, .int .i64 0] 109)
  generalize w1.alloc (.cells #[.pointer (some ⟨b, 0, none⟩), .int .i64 lo, .int .i64 hi, .int .i64 0] 109) = W1 at *
  refine (vbegin ((HH.out.up HB1.out).up HB2) 0 k hl.2.1 h2 h3).mono ?_
  rintro e w2 ⟨rfl, hb2⟩
  have HB3 := Lib.hid (up2 HB1.out (up2 HB2 hb2))
  clear HB2 hb2
  go_wp2_with fail
  go_ret2
  exact ⟨rfl, HB3.out⟩
set_option maxHeartbeats 2000000 in
theorem column_ok (h : BufR w b cs pt lo hi) (k tab : Nat) (ht1 : 1 ≤ tab) (ht2 : tab ≤ 64) (h2 : lo ≤ k) (h3 : k ≤ hi) :
    Calls Tryz.prog 29 #[.pointer (some ⟨b, 0, none⟩), .int .i64 k, .int .i64 tab] w fun e w' => e = .returned (.tuple #[.int .i64 (colN widN cs tab (lineB cs lo k) k), .int .i64 0]) ∧ Below w.heap.size w w' := by
  have hl := h.len
  have HH := Lib.hid h
  clear h
  go_enter Tryz.func29, Tryz.ntmps29
  go_wp2_with fail
  refine (tabbed_ok tab ht1 ht2 w).mono ?_
  rintro e w1 ⟨rfl, rfl⟩
  go_wp2_with fail
  have HB0 := Lib.hid (below1 w (.cells #[.int .i64 k] 3))
  have hc := (MapKept.heap_alloc w (.cells #[.int .i64 k] 3)).1
  generalize w.alloc (.cells #[.int .i64 k] 3) = W at *
  refine (look_ok (HH.out.up HB0.out) tab k w.heap.size 1 (by simp only [World.cell?, hc]; rfl) h2 h3).mono ?_
  rintro e w1 ⟨rfl, hb1⟩
  have HB1 := Lib.hid (up2 HB0.out hb1)
  clear hb1 hc HB0
  go_wp2_with fail
  have HB2 := below1 w1 (.cells #[.pointer (some ⟨b, 0, none⟩), .int .i64 lo, .int .i64 hi, .int .i64 tab] 109)
  generalize w1.alloc (.cells #[.pointer (some ⟨b, 0, none⟩), .int .i64 lo, .int .i64 hi, .int .i64 tab] 109) = W1 at *
  refine (vcolumn ((HH.out.up HB1.out).up HB2) tab k ht1 ht2 h2 h3).mono ?_
  rintro e w2 ⟨rfl, hb2⟩
  have HB3 := Lib.hid (up2 HB1.out (up2 HB2 hb2))
  clear HB2 hb2
  go_wp2_with fail
  go_ret2
  exact ⟨rfl, HB3.out⟩
set_option maxHeartbeats 2000000 in
theorem seek_ok (h : BufR w b cs pt lo hi) (k tab col : Nat) (ht1 : 1 ≤ tab) (ht2 : tab ≤ 64) (h2 : lo ≤ k) (h3 : k ≤ hi) :
    Calls Tryz.prog 79 #[.pointer (some ⟨b, 0, none⟩), .int .i64 k, .int .i64 col, .int .i64 tab] w fun e w' => e = .returned (.tuple #[.int .i64 (seekN widN cs tab (lineB cs lo k) (lineE cs hi k) col : Nat), .int .i64 (colN widN cs tab (lineB cs lo k) (seekN widN cs tab (lineB cs lo k) (lineE cs hi k) col) : Nat), .int .i64 0]) ∧ Below w.heap.size w w' := by
  have hl := h.len
  have HH := Lib.hid h
  clear h
  have d9 : decide ((0 : Int) ≤ (col : Int)) = true := decide_eq_true (by omega)
  go_enter Tryz.func79, Tryz.ntmps79
  go_wp2_with fail
  refine (tabbed_ok tab ht1 ht2 w).mono ?_
  rintro e w1 ⟨rfl, rfl⟩
  go_wp2_with fail
  have HB0 := Lib.hid (below1 w (.cells #[.int .i64 k] 3))
  have hc := (MapKept.heap_alloc w (.cells #[.int .i64 k] 3)).1
  generalize w.alloc (.cells #[.int .i64 k] 3) = W at *
  refine (look_ok (HH.out.up HB0.out) tab k w.heap.size 1 (by simp only [World.cell?, hc]; rfl) h2 h3).mono ?_
  rintro e w1 ⟨rfl, hb1⟩
  have HB1 := Lib.hid (up2 HB0.out hb1)
  clear hb1 hc HB0
  go_wp2_with fail
  have HB2 := below1 w1 (.cells #[.pointer (some ⟨b, 0, none⟩), .int .i64 lo, .int .i64 hi, .int .i64 tab] 109)
  generalize w1.alloc (.cells #[.pointer (some ⟨b, 0, none⟩), .int .i64 lo, .int .i64 hi, .int .i64 tab] 109) = W1 at *
  refine (vseek ((HH.out.up HB1.out).up HB2) tab k col ht1 ht2 h2 h3).mono ?_
  rintro e w2 ⟨rfl, hb2⟩
  have HB3 := Lib.hid (up2 HB1.out (up2 HB2 hb2))
  clear HB2 hb2
  go_wp2_with fail
  refine bodyPost_ret (v := .tuple #[.int .i64 (seekN widN cs tab (lineB cs lo k) (lineE cs hi k) col : Nat), .int .i64 (colN widN cs tab (lineB cs lo k) (seekN widN cs tab (lineB cs lo k) (lineE cs hi k) col) : Nat), .int .i64 0]) (by simp [results, Tryz.f79, go_sem]) rfl ⟨rfl, HB3.out⟩
set_option maxHeartbeats 2000000 in
theorem lines_fwd (h : BufR w b cs pt lo hi) (k n : Nat) (hn : n ≤ 1000000) (h2 : lo ≤ k) (h3 : k ≤ hi) :
    Calls Tryz.prog 80 #[.pointer (some ⟨b, 0, none⟩), .int .i64 k, .int .i64 n] w fun e w' => e = .returned (.tuple #[.int .i64 (linesF cs lo hi n k).1, .int .i64 (linesF cs lo hi n k).2, .int .i64 0]) ∧ Below w.heap.size w w' := by
  have hl := h.len
  have HH := Lib.hid h
  clear h
  go_enter Tryz.func80, Tryz.ntmps80
  go_wp2_with fail
  have HB0 := Lib.hid (below1 w (.cells #[.int .i64 k] 3))
  have hc := (MapKept.heap_alloc w (.cells #[.int .i64 k] 3)).1
  generalize w.alloc (.cells #[.int .i64 k] 3) = W at *
  refine (look_ok (HH.out.up HB0.out) 0 k w.heap.size 1 (by simp only [World.cell?, hc]; rfl) h2 h3).mono ?_
  rintro e w1 ⟨rfl, hb1⟩
  have HB1 := Lib.hid (up2 HB0.out hb1)
  clear hb1 hc HB0
  go_wp2_with fail
  have HB2 := below1 w1 (.cells #[.pointer (some ⟨b, 0, none⟩), .int .i64 lo, .int .i64 hi, .int .i64 0] 109)
  generalize w1.alloc (.cells #[.pointer (some ⟨b, 0, none⟩), .int .i64 lo, .int .i64 hi, .int .i64 0] 109) = W1 at *
  refine (vlines_fwd ((HH.out.up HB1.out).up HB2) 0 k n hn h2 h3).mono ?_
  rintro e w2 ⟨rfl, hb2⟩
  have HB3 := Lib.hid (up2 HB1.out (up2 HB2 hb2))
  clear HB2 hb2
  go_wp2_with fail
  refine bodyPost_ret (v := .tuple #[.int .i64 (linesF cs lo hi n k).1, .int .i64 (linesF cs lo hi n k).2, .int .i64 0]) (by simp [results, Tryz.f80, go_sem]) rfl ⟨rfl, HB3.out⟩
set_option maxHeartbeats 2000000 in
theorem lines_back (h : BufR w b cs pt lo hi) (k n : Nat) (hn : n ≤ 1000000) (hn1 : 1 ≤ n) (h2 : lo ≤ k) (h3 : k ≤ hi) :
    Calls Tryz.prog 80 #[.pointer (some ⟨b, 0, none⟩), .int .i64 k, .int .i64 (-(n : Int))] w fun e w' => e = .returned (.tuple #[.int .i64 (bwdN cs lo n (lineB cs lo k)).1, .int .i64 (bwdN cs lo n (lineB cs lo k)).2, .int .i64 0]) ∧ Below w.heap.size w w' := by
  have hl := h.len
  have HH := Lib.hid h
  clear h
  go_enter Tryz.func80, Tryz.ntmps80
  go_wp2_with fail
  have HB0 := Lib.hid (below1 w (.cells #[.int .i64 k] 3))
  have hc := (MapKept.heap_alloc w (.cells #[.int .i64 k] 3)).1
  generalize w.alloc (.cells #[.int .i64 k] 3) = W at *
  refine (look_ok (HH.out.up HB0.out) 0 k w.heap.size 1 (by simp only [World.cell?, hc]; rfl) h2 h3).mono ?_
  rintro e w1 ⟨rfl, hb1⟩
  have HB1 := Lib.hid (up2 HB0.out hb1)
  clear hb1 hc HB0
  go_wp2_with fail
  have HB2 := below1 w1 (.cells #[.pointer (some ⟨b, 0, none⟩), .int .i64 lo, .int .i64 hi, .int .i64 0] 109)
  generalize w1.alloc (.cells #[.pointer (some ⟨b, 0, none⟩), .int .i64 lo, .int .i64 hi, .int .i64 0] 109) = W1 at *
  refine (vlines_back ((HH.out.up HB1.out).up HB2) 0 k n hn hn1 h2 h3).mono ?_
  rintro e w2 ⟨rfl, hb2⟩
  have HB3 := Lib.hid (up2 HB1.out (up2 HB2 hb2))
  clear HB2 hb2
  go_wp2_with fail
  refine bodyPost_ret (v := .tuple #[.int .i64 (bwdN cs lo n (lineB cs lo k)).1, .int .i64 (bwdN cs lo n (lineB cs lo k)).2, .int .i64 0]) (by simp [results, Tryz.f80, go_sem]) rfl ⟨rfl, HB3.out⟩
end
end Go.Proofs.YtnbccoelbfgmgaaGreatDoor
/- kill's rows: how they lie, what a row is. -/
namespace Go.Proofs.YtnbccoelbfgmgaaGreatDoor
open Go.RowKit Go.Lib
set_option linter.unusedVariables false
set_option linter.unusedSimpArgs false
abbrev Row3 := Int × Int × Int
abbrev encRow (x : Row3) : List Value := [.int .i64 x.1, .int .i64 x.2.1, .int .i64 x.2.2]
theorem eltRow : Elt encRow 72 76 3 24 (.agg #[.int .i64 0, .int .i64 0, .int .i64 0]) := ⟨Tryz.underlying72, by kernel_rfl, rfl, by omega, fun _ => rfl, fun x u hu => by simp at hu; rcases hu with rfl | rfl | rfl <;> rfl⟩
/-- The row of the line of k. -/
def rowAt (cs : List Nat) (lo hi tab left right k : Nat) : Row3 :=
  (seekN widN cs tab (lineB cs lo k) (lineE cs hi k) left, seekN widN cs tab (lineB cs lo k) (lineE cs hi k) right,
    if left ≤ colN widN cs tab (lineB cs lo k) (seekN widN cs tab (lineB cs lo k) (lineE cs hi k) left) then
      max 0 ((right : Int) - left - ((colN widN cs tab (lineB cs lo k) (seekN widN cs tab (lineB cs lo k) (lineE cs hi k) right) : Int) - colN widN cs tab (lineB cs lo k) (seekN widN cs tab (lineB cs lo k) (lineE cs hi k) left)))
    else (right : Int) - left)
def lenV : Value → Nat
  | .slice _ n _ => n
  | _ => 0
/-- A slice of rows is handed back. -/
def RowsP (w : World) (L : List Row3) (e : Ending) (w' : World) : Prop := ∃ v, e = .returned (.tuple #[v, .int .i64 0]) ∧ ROwn encRow 76 3 w.heap.size w' v L ∧ Below w.heap.size w w'
theorem seek_hi {cs : List Nat} {lo hi tab k col : Nat} (h1 : lo ≤ k) (h2 : k ≤ hi) : seekN widN cs tab (lineB cs lo k) (lineE cs hi k) col ≤ hi := by
  have g1 := lineB_le (cs := cs) (lo := lo) k h1
  have g2 := lineE_ge (cs := cs) (hi := hi) k
  have g4 := lineE_le (cs := cs) (hi := hi) k h2
  obtain ⟨_, g5, _⟩ := seekN_is (wid := widN) (cs := cs) (tab := tab) (lineB cs lo k) (lineE cs hi k) col (by omega)
  omega
theorem colN_cap9 {cs : List Nat} {tab : Nat} (ht : tab ≤ 64) (b i : Nat) (hi : i ≤ 1000001) : colN widN cs tab b i ≤ 1000000000 := by
  rcases Nat.le_total b i with h | h
  · have := colN_small (cs := cs) ht b i h hi; omega
  · have : colN widN cs tab b i = 0 := by unfold colN; rw [Nat.sub_eq_zero_of_le h]; rfl
    omega
end Go.Proofs.YtnbccoelbfgmgaaGreatDoor
