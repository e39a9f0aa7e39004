import Derived.Test.YtphdkcdkhklicaaGreatDoorZ03
import Derived.Test.YtphdkcdkhklicaaGreatDoorZ02
import Derived.Test.YtphdkcdkhklicaaGreatDoorLayK
import Derived.Shelf.Strings.Repeat
import Derived.Test.YtphdkcdkhklicaaGreatDoorZ01
import Derived.Laws.IdiomCopy
import Derived.Laws.MakeOwn
import Derived.Test.YtphdkcdkhklicaaGreatDoorZ00
import Derived.IntWalk
/- package column: the view's lines. -/
namespace Go.Proofs.YtphdkcdkhklicaaGreatDoor
open Go.RowKit
set_option linter.unusedVariables false
set_option linter.unusedSimpArgs false
/-- Where moving n lines forward leads, and how many lines there were not. -/
def linesF (cs : List Nat) (lo hi n k : Nat) : Nat × Nat := if (fwdN cs hi n k).2 = 0 then (lineB cs lo (fwdN cs hi n k).1, 0) else fwdN cs hi n k
section
variable {w w' : World} {v b pt lo hi tab : Nat} {cs : List Nat}
set_option maxHeartbeats 2000000 in
theorem vlines_fwd (h : BufR w b cs pt lo hi) (tab k n : Nat) (hn : n ≤ 1000000) (h2 : lo ≤ k) (h3 : k ≤ hi) :
    Calls Tryz.prog 73 #[vwV b lo hi tab, .int .i64 k, .int .i64 n] w fun e w' => e = .returned (.tuple #[.int .i64 (linesF cs lo hi n k).1, .int .i64 (linesF cs lo hi n k).2]) ∧ Below w.heap.size w w' := by
  have hl := h.len
  have HH := Lib.hid h
  obtain ⟨R, hR⟩ : ∃ R, R = linesF cs lo hi n k := ⟨_, rfl⟩
  rw [← hR]
  have HR := Lib.hid hR
  clear hR h
  go_enter Tryz.func73, Tryz.ntmps73
  go_wp2_with fail
  have HB0 := Lib.hid (below1 w (.cells #[.pointer (some ⟨b, 0, none⟩), .int .i64 lo, .int .i64 hi, .int .i64 tab] 83))
  have hv := Lib.hid (VwI.made w b lo hi tab (T := 83))
  generalize w.alloc (.cells #[.pointer (some ⟨b, 0, none⟩), .int .i64 lo, .int .i64 hi, .int .i64 tab] 83) = W at *
  go_loopw [1, 2] (fun va vb wr => ∃ i m : Nat, lo ≤ i ∧ i ≤ hi ∧ m ≤ n ∧ va = .int .i64 i ∧ vb = .int .i64 m ∧ fwdN cs hi m i = fwdN cs hi n k ∧ Below W.heap.size W wr) (fun _ vb _ => (intOf vb).toNat)
  case atStart => exact ⟨k, n, h2, h3, Nat.le_refl _, rfl, rfl, rfl, Below.refl _ W⟩
  case round =>
    obtain ⟨i, m, i1, i2, i3, rfl, rfl, hf, hbw⟩ := hrel
    have HF := Lib.hid hf
    have HBW := Lib.hid hbw
    have HVr := Lib.hid (hv.out.up hbw)
    have HHr := Lib.hid ((HH.out.up HB0.out).up hbw)
    clear hf hbw
    cases m with
    | succ q =>
      have d0 : decide ((0 : Int) < ((q + 1 : Nat) : Int)) = true := decide_eq_true (by omega)
      have s1 : IntKind.i64.wrap (((q + 1 : Nat) : Int) - 1) = (q : Int) := by rw [IntWalk.i64_in _ (by omega)]; omega
      have v0 := HVr.out.c0
      have v1 := HVr.out.c1
      have v2 := HVr.out.c2
      have v3 := HVr.out.c3
      have HE := Lib.hid (vend HHr.out tab i (by omega) i2)
      have hE1 : i ≤ lineE cs hi i := lineE_ge i
      have hE2 : lineE cs hi i ≤ hi := lineE_le i i2
      have hf : (if lineE cs hi i = hi then (hi, q + 1) else fwdN cs hi q (lineE cs hi i + 1)) = fwdN cs hi n k := HF.out
      have HF2 := Lib.hid hf
      clear hf HF
      generalize lineE cs hi i = E at *
      go_wp2_with fail
      refine HE.out.mono ?_
      rintro e w1 ⟨rfl, hb1⟩
      have v2' := (HVr.out.up hb1).c2
      have HB1 := Lib.hid hb1
      clear hb1 v0 v1 v2 v3
      by_cases he : E = hi
      · have d1 : ((E : Int) == (hi : Int)) = true := by simp [he]
        have hff := HF2.out
        rw [if_pos he] at hff
        have hRR := HR.out
        unfold linesF at hRR
        have e0 : fwdN cs hi n k = (hi, q + 1) := hff.symm
        rw [e0, if_neg (by simp)] at hRR
        subst hRR
        clear hff HF2 HR
        go_wp2_with fail
        go_ret2
        subst he
        exact ⟨by first | rfl | go_num, up2 HB0.out (up2 HBW.out HB1.out)⟩
      · have d1 : ((E : Int) == (hi : Int)) = false := by simp; omega
        have hff := HF2.out
        rw [if_neg he] at hff
        have HF3 := Lib.hid hff
        have s2 : IntKind.i64.wrap ((E : Int) + 1) = ((E + 1 : Nat) : Int) := by rw [IntWalk.i64_in _ (by omega)]; omega
        clear hff HF2
        go_wp2_with fail
        go_roundw
        case rel => exact ⟨E + 1, q, by omega, by omega, by omega, by first | rfl | go_num, by first | rfl | go_num, HF3.out, up2 HBW.out HB1.out⟩
        case measure => simp [intOf]
    | zero =>
      have d0 : decide ((0 : Int) < ((0 : Nat) : Int)) = false := decide_eq_false (by omega)
      have hRR := HR.out
      unfold linesF at hRR
      have e0 : fwdN cs hi n k = (i, 0) := HF.out.symm
      rw [e0, if_pos rfl] at hRR
      have HRR := Lib.hid hRR
      clear HR HF e0 hRR
      have v0 := HVr.out.c0
      have v1 := HVr.out.c1
      have v2 := HVr.out.c2
      have v3 := HVr.out.c3
      have z0 : ((0 : Nat) : Int) = 0 := rfl
      rw [z0] at d0
      by_cases hgt : lo < i
      · have d1 : decide ((lo : Int) < (i : Int)) = true := decide_eq_true (by omega)
        have s3 : IntKind.i64.wrap ((i : Int) - 1) = ((i - 1 : Nat) : Int) := by rw [IntWalk.i64_in _ (by omega)]; omega
        have HC := Lib.hid (bchar HHr.out (i - 1) (by omega) (by omega))
        obtain ⟨c, hc⟩ : ∃ c, c = chr cs (i - 1) := ⟨_, rfl⟩
        rw [← hc] at HC
        by_cases h10 : c = 10
        · have d2 : ((c : Int) == (10 : Int)) = true := by simp [h10]
          have e2 : lineB cs lo i = i := lineB_eq i i (by omega) (Nat.le_refl _) (fun j h h2 => by omega) (.inr ⟨hgt, by rw [← hc]; exact h10⟩)
          have E2 := Lib.hid e2
          clear hc e2
          generalize i - 1 = p at *
          go_wp2_with fail
          refine HC.out.mono ?_
          rintro e w1 ⟨rfl, hb1⟩
          have HB1 := Lib.hid hb1
          clear hb1
          go_wp2_with fail
          go_ret2
          exact ⟨by rw [HRR.out, E2.out]; rfl, up2 HB0.out (up2 HBW.out HB1.out)⟩
        · have d2 : ((c : Int) == (10 : Int)) = false := by simp; omega
          clear hc
          generalize i - 1 = p at *
          go_wp2_with fail
          refine HC.out.mono ?_
          rintro e w1 ⟨rfl, hb1⟩
          have HB1 := Lib.hid hb1
          have v0' := (HVr.out.up hb1).c0
          have v1' := (HVr.out.up hb1).c1
          have v2' := (HVr.out.up hb1).c2
          have v3' := (HVr.out.up hb1).c3
          clear hb1 v0 v1 v2 v3
          go_wp2_with fail
          refine (vbegin (HHr.out.up HB1.out) tab i hl.2.1 i1 i2).mono ?_
          rintro e w2 ⟨rfl, hb2⟩
          have HB2 := Lib.hid hb2
          clear hb2 v0' v1' v2' v3'
          generalize lineB cs lo i = B at *
          go_wp2_with fail
          go_loopw [1, 2] (fun va vb wr => va = .int .i64 B ∧ vb = .int .i64 0 ∧ w2 = wr) (fun _ _ _ => 0)
          case atStart => exact ⟨rfl, rfl, rfl⟩
          case round =>
            obtain ⟨rfl, rfl, rfl⟩ := hrel
            go_wp2_with fail
            go_ret2
            exact ⟨by rw [HRR.out]; first | rfl | go_num, up2 HB0.out (up2 HBW.out (up2 HB1.out HB2.out))⟩
      · have d1 : decide ((lo : Int) < (i : Int)) = false := decide_eq_false (by omega)
        go_wp2_with fail
        refine (vbegin HHr.out tab i hl.2.1 i1 i2).mono ?_
        rintro e w2 ⟨rfl, hb2⟩
        have HB2 := Lib.hid hb2
        clear hb2 v0 v1 v2 v3
        generalize lineB cs lo i = B at *
        go_wp2_with fail
        go_loopw [1, 2] (fun va vb wr => va = .int .i64 B ∧ vb = .int .i64 0 ∧ w2 = wr) (fun _ _ _ => 0)
        case atStart => exact ⟨rfl, rfl, rfl⟩
        case round =>
          obtain ⟨rfl, rfl, rfl⟩ := hrel
          go_wp2_with fail
          go_ret2
          exact ⟨by rw [HRR.out]; first | rfl | go_num, up2 HB0.out (up2 HBW.out HB2.out)⟩
set_option maxHeartbeats 2000000 in
theorem vlines_back (h : BufR w b cs pt lo hi) (tab k n : Nat) (hn : n ≤ 1000000) (hn1 : 1 ≤ n) (h2 : lo ≤ k) (h3 : k ≤ hi) :
    Calls Tryz.prog 73 #[vwV b lo hi tab, .int .i64 k, .int .i64 (-(n : Int))] w fun e w' => e = .returned (.tuple #[.int .i64 (bwdN cs lo n (lineB cs lo k)).1, .int .i64 (bwdN cs lo n (lineB cs lo k)).2]) ∧ Below w.heap.size w w' := by
  have hl := h.len
  have HH := Lib.hid h
  obtain ⟨R, hR⟩ : ∃ R, R = bwdN cs lo n (lineB cs lo k) := ⟨_, rfl⟩
  rw [← hR]
  have HR := Lib.hid hR
  clear hR h
  have hB1 : lo ≤ lineB cs lo k := lineB_ge k
  have hB2 : lineB cs lo k ≤ k := lineB_le k h2
  go_enter Tryz.func73, Tryz.ntmps73
  go_wp2_with fail
  have HB0 := Lib.hid (below1 w (.cells #[.pointer (some ⟨b, 0, none⟩), .int .i64 lo, .int .i64 hi, .int .i64 tab] 83))
  have hv := Lib.hid (VwI.made w b lo hi tab (T := 83))
  generalize w.alloc (.cells #[.pointer (some ⟨b, 0, none⟩), .int .i64 lo, .int .i64 hi, .int .i64 tab] 83) = W at *
  go_loopw [1, 2] (fun va vb wr => va = .int .i64 k ∧ vb = .int .i64 (-(n : Int)) ∧ W = wr) (fun _ _ _ => 0)
  case atStart => exact ⟨rfl, rfl, rfl⟩
  case round =>
    obtain ⟨rfl, rfl, rfl⟩ := hrel
    have d0 : decide ((0 : Int) < -(n : Int)) = false := decide_eq_false (by omega)
    have d1 : (-(n : Int) == (0 : Int)) = false := by simp; omega
    have v0 := hv.out.c0
    have v1 := hv.out.c1
    have v2 := hv.out.c2
    have v3 := hv.out.c3
    go_wp2_with fail
    refine (vbegin (HH.out.up HB0.out) tab k hl.2.1 h2 h3).mono ?_
    rintro e w1 ⟨rfl, hb1⟩
    have HB1 := Lib.hid hb1
    clear hb1 v0 v1 v2 v3 d0 d1
    generalize lineB cs lo k = B at *
    go_wp2_with fail
    go_loopw [1, 2] (fun va vb wr => ∃ i m : Nat, lo ≤ i ∧ i ≤ hi ∧ m ≤ n ∧ va = .int .i64 i ∧ vb = .int .i64 (-(m : Int)) ∧ bwdN cs lo m i = R ∧ Below W.heap.size W wr) (fun _ vb _ => (- intOf vb).toNat)
    case atStart => exact ⟨B, n, hB1, by omega, Nat.le_refl _, rfl, rfl, HR.out.symm, HB1.out⟩
    case round =>
      obtain ⟨i, m, i1, i2, i3, rfl, rfl, hf, hbw⟩ := hrel
      have HBW := Lib.hid hbw
      have HVr := Lib.hid (hv.out.up hbw)
      have HHr := Lib.hid ((HH.out.up HB0.out).up hbw)
      cases m with
      | zero =>
        subst hf
        have z0 : -((0 : Nat) : Int) = 0 := rfl
        rw [z0]
        clear hbw HR
        go_wp2_with fail
        go_ret2
        exact ⟨by first | rfl | go_num, up2 HB0.out HBW.out⟩
      | succ q =>
        have hf2 : (if i = lo then (lo, q + 1) else bwdN cs lo q (lineB cs lo (i - 1))) = R := hf
        have HF := Lib.hid hf2
        clear hf hf2 hbw HR
        have d0 : decide (-((q + 1 : Nat) : Int) < 0) = true := decide_eq_true (by omega)
        have v0 := HVr.out.c0
        have v1 := HVr.out.c1
        have v2 := HVr.out.c2
        have v3 := HVr.out.c3
        have s1 : IntKind.i64.wrap (-((q + 1 : Nat) : Int) + 1) = -(q : Int) := by rw [IntWalk.i64_in _ (by omega)]; omega
        have s0 : IntKind.i64.wrap (- -((q + 1 : Nat) : Int)) = ((q + 1 : Nat) : Int) := by rw [IntWalk.i64_in _ (by omega)]; omega
        have d3 : (-((q + 1 : Nat) : Int) == (-9223372036854775808 : Int)) = false := by simp; omega
        by_cases he : i = lo
        · have hff := HF.out
          rw [if_pos he] at hff
          subst hff
          clear HF
          have d1 : ((i : Int) == (lo : Int)) = true := by simp [he]
          go_wp2_with fail
          go_ret2
          subst he
          exact ⟨by first | rfl | go_num, up2 HB0.out HBW.out⟩
        · have hff := HF.out
          rw [if_neg he] at hff
          have HF2 := Lib.hid hff
          clear hff HF
          have d1 : ((i : Int) == (lo : Int)) = false := by simp; omega
          have s3 : IntKind.i64.wrap ((i : Int) - 1) = ((i - 1 : Nat) : Int) := by rw [IntWalk.i64_in _ (by omega)]; omega
          have HBg := Lib.hid (vbegin HHr.out tab (i - 1) hl.2.1 (by omega) (by omega))
          have a1 : lo ≤ lineB cs lo (i - 1) := lineB_ge _
          have a2 : lineB cs lo (i - 1) ≤ i - 1 := lineB_le _ (by omega)
          have a3 : i - 1 ≤ hi := by omega
          generalize lineB cs lo (i - 1) = L at *
          generalize i - 1 = p at *
          go_wp2_with fail
          refine HBg.out.mono ?_
          rintro e w2 ⟨rfl, hb2⟩
          have HB2 := Lib.hid hb2
          clear hb2 v0 v1 v2 v3
          go_wp2_with fail
          go_roundw
          case rel => exact ⟨L, q, a1, by omega, by omega, by first | rfl | go_num, by first | rfl | go_num, HF2.out, up2 HBW.out HB2.out⟩
          case measure => simp [intOf]; omega
end
end Go.Proofs.YtphdkcdkhklicaaGreatDoor
/- package column: look, Begin, End, Column, Seek, Lines. -/
namespace Go.Proofs.YtphdkcdkhklicaaGreatDoor
open Go.RowKit
set_option linter.unusedVariables false
set_option linter.unusedSimpArgs false
section
variable {w w' : World} {v b pt lo hi tab : Nat} {cs : List Nat}
set_option maxHeartbeats 2000000 in
theorem look_ok (h : BufR w b cs pt lo hi) (tab k g cap : Nat) (hx : w.cell? ⟨g, 0, none⟩ = some (.int .i64 k)) (h2 : lo ≤ k) (h3 : k ≤ hi) :
    Calls Tryz.prog 43 #[.pointer (some ⟨b, 0, none⟩), .int .i64 tab, .bool true, .slice (some ⟨g, 0, none⟩) 1 cap] w fun e w' => e = .returned (.tuple #[vwV b lo hi tab, .int .i64 0]) ∧ Below w.heap.size w w' := by
  have hl := h.len
  have HH := Lib.hid h
  have hg := lt_of_cell hx
  clear h
  go_enter Tryz.func43, Tryz.ntmps43
  go_wp2_with fail
  have HB0 := Lib.hid (below1 w (.cells #[.pointer none, .int .i64 0, .int .i64 0, .int .i64 0] 83))
  have hblk := (MapKept.heap_alloc w (.cells #[.pointer none, .int .i64 0, .int .i64 0, .int .i64 0] 83)).1
  have hx2 := (World.cell?_of_block (w := w) (a := ⟨g, 0, none⟩) (HB0.out.block g hg)).trans hx
  have hsz : w.heap.size < (w.alloc (.cells #[.pointer none, .int .i64 0, .int .i64 0, .int .i64 0] 83)).heap.size := by simp
  generalize w.alloc (.cells #[.pointer none, .int .i64 0, .int .i64 0, .int .i64 0] 83) = W at *
  have HBf := Lib.hid hblk
  have HX := Lib.hid hx2
  clear hx hblk hx2
  refine (bpoint (HH.out.up HB0.out)).mono ?_
  rintro e w1 ⟨rfl, rfl⟩
  have d0 : ((pt : Int) == (0 : Int)) = false := by simp; omega
  go_wp2_with fail
  refine (breach (HH.out.up HB0.out)).mono ?_
  rintro e w1 ⟨rfl, hb1⟩
  have hblk := (hb1.block _ hsz).trans HBf.out
  have hx1 := (World.cell?_of_block (w := W) (a := ⟨g, 0, none⟩) (hb1.block g (lt_of_cell HX.out))).trans HX.out
  have HB1 := Lib.hid hb1
  have HK := Lib.hid hblk
  clear hb1 HBf HX d0 hblk
  have d1 : decide ((k : Int) < (lo : Int)) = false := decide_eq_false (by omega)
  have d2 : decide ((hi : Int) < (k : Int)) = false := decide_eq_false (by omega)
  go_wp2_with fail
  go_loopw [13, 32] (fun va vb wr => w1 = wr ∧ ∃ i : Nat, i ≤ 1 ∧ vb = .int .i64 i) (fun _ vb _ => 2 - (intOf vb).toNat)
  case atStart => exact ⟨rfl, 0, by omega, rfl⟩
  case round =>
    obtain ⟨rfl, i, hi1, rfl⟩ := hrel
    cases i with
    | zero =>
      go_wp2_with fail
      go_roundw
      case rel => exact ⟨trivial, 1, by omega, rfl⟩
      case measure => simp [intOf]
    | succ q =>
      obtain rfl : q = 0 := by omega
      have k0 : w1.cell? ⟨w.heap.size, 0, none⟩ = some (.pointer none) := by simp only [World.cell?, HK.out]; rfl
      have k1 : w1.cell? ⟨w.heap.size, 1, none⟩ = some (.int .i64 0) := by simp only [World.cell?, HK.out]; rfl
      have k2 : w1.cell? ⟨w.heap.size, 2, none⟩ = some (.int .i64 0) := by simp only [World.cell?, HK.out]; rfl
      have k3 : w1.cell? ⟨w.heap.size, 3, none⟩ = some (.int .i64 0) := by simp only [World.cell?, HK.out]; rfl
      have f0 : w1.frozen? ⟨w.heap.size, 0, none⟩ = false := by simp only [World.frozen?, HK.out]; rfl
      have f1 : w1.frozen? ⟨w.heap.size, 1, none⟩ = false := by simp only [World.frozen?, HK.out]; rfl
      have f2 : w1.frozen? ⟨w.heap.size, 2, none⟩ = false := by simp only [World.frozen?, HK.out]; rfl
      have f3 : w1.frozen? ⟨w.heap.size, 3, none⟩ = false := by simp only [World.frozen?, HK.out]; rfl
      clear hx1
      go_wp2_with fail
      refine bodyPost_ret (v := .tuple #[vwV b lo hi tab, .int .i64 0]) (by simp [results, Tryz.f43, go_sem, k0, k1, k2, k3, f0, f1, f2, f3]) rfl ⟨rfl, ?_⟩
      exact ((((up2 HB0.out HB1.out).setCell (Nat.le_refl _) _).setCell (Nat.le_refl _) _).setCell (Nat.le_refl _) _).setCell (Nat.le_refl _) _
end
end Go.Proofs.YtphdkcdkhklicaaGreatDoor
/- package column: Begin, End, Column, Seek, Lines. -/
namespace Go.Proofs.YtphdkcdkhklicaaGreatDoor
open Go.RowKit
set_option linter.unusedVariables false
set_option linter.unusedSimpArgs false
theorem cell_new (w : World) (c : Value) (cs : Array Value) (T : TypeId) : True := trivial
section
variable {w w' : World} {v b pt lo hi tab : Nat} {cs : List Nat}
set_option maxHeartbeats 2000000 in
theorem begin_ok (h : BufR w b cs pt lo hi) (k : Nat) (h2 : lo ≤ k) (h3 : k ≤ hi) :
    Calls Tryz.prog 13 #[.pointer (some ⟨b, 0, none⟩), .int .i64 k] w fun e w' => e = .returned (.tuple #[.int .i64 (lineB cs lo k), .int .i64 0]) ∧ Below w.heap.size w w' := by
  have hl := h.len
  have HH := Lib.hid h
  clear h
  go_enter Tryz.func13, Tryz.ntmps13
  go_wp2_with fail
  have HB0 := Lib.hid (below1 w (.cells #[.int .i64 k] 3))
  have hc := (MapKept.heap_alloc w (.cells #[.int .i64 k] 3)).1
  generalize w.alloc (.cells #[.int .i64 k] 3) = W at *
  refine (look_ok (HH.out.up HB0.out) 0 k w.heap.size 1 (by simp only [World.cell?, hc]; rfl) h2 h3).mono ?_
  rintro e w1 ⟨rfl, hb1⟩
  have HB1 := Lib.hid (up2 HB0.out hb1)
  clear hb1 hc HB0
  go_wp2_with fail
  have HB2 := below1 w1 (.cells #[.pointer (some ⟨b, 0, none⟩), .int .i64 lo, .int .i64 hi, .int .i64 0] 83)
  generalize w1.alloc (.cells #[.pointer (some ⟨b, 0, none⟩), .int .i64 lo, .int .i64 hi, .int .i64 0] 83) = W1 at *
  refine (vbegin ((HH.out.up HB1.out).up HB2) 0 k hl.2.1 h2 h3).mono ?_
  rintro e w2 ⟨rfl, hb2⟩
  have HB3 := Lib.hid (up2 HB1.out (up2 HB2 hb2))
  clear HB2 hb2
  go_wp2_with fail
  go_ret2
  exact ⟨rfl, HB3.out⟩
set_option maxHeartbeats 2000000 in
theorem end_ok (h : BufR w b cs pt lo hi) (k : Nat) (h2 : lo ≤ k) (h3 : k ≤ hi) :
    Calls Tryz.prog 21 #[.pointer (some ⟨b, 0, none⟩), .int .i64 k] w fun e w' => e = .returned (.tuple #[.int .i64 (lineE cs hi k), .int .i64 0]) ∧ Below w.heap.size w w' := by
  have hl := h.len
  have HH := Lib.hid h
  clear h
  go_enter Tryz.func21, Tryz.ntmps21
  go_wp2_with fail
  have HB0 := Lib.hid (below1 w (.cells #[.int .i64 k] 3))
  have hc := (MapKept.heap_alloc w (.cells #[.int .i64 k] 3)).1
  generalize w.alloc (.cells #[.int .i64 k] 3) = W at *
  refine (look_ok (HH.out.up HB0.out) 0 k w.heap.size 1 (by simp only [World.cell?, hc]; rfl) h2 h3).mono ?_
  rintro e w1 ⟨rfl, hb1⟩
  have HB1 := Lib.hid (up2 HB0.out hb1)
  clear hb1 hc HB0
  go_wp2_with fail
  have HB2 := below1 w1 (.cells #[.pointer (some ⟨b, 0, none⟩), .int .i64 lo, .int .i64 hi, .int .i64 0] 83)
  generalize w1.alloc (.cells #[.pointer (some ⟨b, 0, none⟩), .int .i64 lo, .int .i64 hi, .int .i64 0] 83) = W1 at *
  refine (vend ((HH.out.up HB1.out).up HB2) 0 k (by omega) h3).mono ?_
  rintro e w2 ⟨rfl, hb2⟩
  have HB3 := Lib.hid (up2 HB1.out (up2 HB2 hb2))
  clear HB2 hb2
  go_wp2_with fail
  go_ret2
  exact ⟨rfl, HB3.out⟩
set_option maxHeartbeats 2000000 in
theorem column_ok (h : BufR w b cs pt lo hi) (k tab : Nat) (ht1 : 1 ≤ tab) (ht2 : tab ≤ 64) (h2 : lo ≤ k) (h3 : k ≤ hi) :
    Calls Tryz.prog 16 #[.pointer (some ⟨b, 0, none⟩), .int .i64 k, .int .i64 tab] w fun e w' => e = .returned (.tuple #[.int .i64 (colN widN cs tab (lineB cs lo k) k), .int .i64 0]) ∧ Below w.heap.size w w' := by
  have hl := h.len
  have HH := Lib.hid h
  clear h
  go_enter Tryz.func16, Tryz.ntmps16
  go_wp2_with fail
  refine (tabbed_ok tab ht1 ht2 w).mono ?_
  rintro e w1 ⟨rfl, rfl⟩
  go_wp2_with fail
  have HB0 := Lib.hid (below1 w (.cells #[.int .i64 k] 3))
  have hc := (MapKept.heap_alloc w (.cells #[.int .i64 k] 3)).1
  generalize w.alloc (.cells #[.int .i64 k] 3) = W at *
  refine (look_ok (HH.out.up HB0.out) tab k w.heap.size 1 (by simp only [World.cell?, hc]; rfl) h2 h3).mono ?_
  rintro e w1 ⟨rfl, hb1⟩
  have HB1 := Lib.hid (up2 HB0.out hb1)
  clear hb1 hc HB0
  go_wp2_with fail
  have HB2 := below1 w1 (.cells #[.pointer (some ⟨b, 0, none⟩), .int .i64 lo, .int .i64 hi, .int .i64 tab] 83)
  generalize w1.alloc (.cells #[.pointer (some ⟨b, 0, none⟩), .int .i64 lo, .int .i64 hi, .int .i64 tab] 83) = W1 at *
  refine (vcolumn ((HH.out.up HB1.out).up HB2) tab k ht1 ht2 h2 h3).mono ?_
  rintro e w2 ⟨rfl, hb2⟩
  have HB3 := Lib.hid (up2 HB1.out (up2 HB2 hb2))
  clear HB2 hb2
  go_wp2_with fail
  go_ret2
  exact ⟨rfl, HB3.out⟩
set_option maxHeartbeats 2000000 in
theorem seek_ok (h : BufR w b cs pt lo hi) (k tab col : Nat) (ht1 : 1 ≤ tab) (ht2 : tab ≤ 64) (h2 : lo ≤ k) (h3 : k ≤ hi) :
    Calls Tryz.prog 31 #[.pointer (some ⟨b, 0, none⟩), .int .i64 k, .int .i64 col, .int .i64 tab] w fun e w' => e = .returned (.tuple #[.int .i64 (seekN widN cs tab (lineB cs lo k) (lineE cs hi k) col : Nat), .int .i64 (colN widN cs tab (lineB cs lo k) (seekN widN cs tab (lineB cs lo k) (lineE cs hi k) col) : Nat), .int .i64 0]) ∧ Below w.heap.size w w' := by
  have hl := h.len
  have HH := Lib.hid h
  clear h
  have d9 : decide ((0 : Int) ≤ (col : Int)) = true := decide_eq_true (by omega)
  go_enter Tryz.func31, Tryz.ntmps31
  go_wp2_with fail
  refine (tabbed_ok tab ht1 ht2 w).mono ?_
  rintro e w1 ⟨rfl, rfl⟩
  go_wp2_with fail
  have HB0 := Lib.hid (below1 w (.cells #[.int .i64 k] 3))
  have hc := (MapKept.heap_alloc w (.cells #[.int .i64 k] 3)).1
  generalize w.alloc (.cells #[.int .i64 k] 3) = W at *
  refine (look_ok (HH.out.up HB0.out) tab k w.heap.size 1 (by simp only [World.cell?, hc]; rfl) h2 h3).mono ?_
  rintro e w1 ⟨rfl, hb1⟩
  have HB1 := Lib.hid (up2 HB0.out hb1)
  clear hb1 hc HB0
  go_wp2_with fail
  have HB2 := below1 w1 (.cells #[.pointer (some ⟨b, 0, none⟩), .int .i64 lo, .int .i64 hi, .int .i64 tab] 83)
  generalize w1.alloc (.cells #[.pointer (some ⟨b, 0, none⟩), .int .i64 lo, .int .i64 hi, .int .i64 tab] 83) = W1 at *
  refine (vseek ((HH.out.up HB1.out).up HB2) tab k col ht1 ht2 h2 h3).mono ?_
  rintro e w2 ⟨rfl, hb2⟩
  have HB3 := Lib.hid (up2 HB1.out (up2 HB2 hb2))
  clear HB2 hb2
  go_wp2_with fail
  refine bodyPost_ret (v := .tuple #[.int .i64 (seekN widN cs tab (lineB cs lo k) (lineE cs hi k) col : Nat), .int .i64 (colN widN cs tab (lineB cs lo k) (seekN widN cs tab (lineB cs lo k) (lineE cs hi k) col) : Nat), .int .i64 0]) (by simp [results, Tryz.f31, go_sem]) rfl ⟨rfl, HB3.out⟩
set_option maxHeartbeats 2000000 in
theorem lines_fwd (h : BufR w b cs pt lo hi) (k n : Nat) (hn : n ≤ 1000000) (h2 : lo ≤ k) (h3 : k ≤ hi) :
    Calls Tryz.prog 24 #[.pointer (some ⟨b, 0, none⟩), .int .i64 k, .int .i64 n] w fun e w' => e = .returned (.tuple #[.int .i64 (linesF cs lo hi n k).1, .int .i64 (linesF cs lo hi n k).2, .int .i64 0]) ∧ Below w.heap.size w w' := by
  have hl := h.len
  have HH := Lib.hid h
  clear h
  go_enter Tryz.func24, Tryz.ntmps24
  go_wp2_with fail
  have HB0 := Lib.hid (below1 w (.cells #[.int .i64 k] 3))
  have hc := (MapKept.heap_alloc w (.cells #[.int .i64 k] 3)).1
  generalize w.alloc (.cells #[.int .i64 k] 3) = W at *
  refine (look_ok (HH.out.up HB0.out) 0 k w.heap.size 1 (by simp only [World.cell?, hc]; rfl) h2 h3).mono ?_
  rintro e w1 ⟨rfl, hb1⟩
  have HB1 := Lib.hid (up2 HB0.out hb1)
  clear hb1 hc HB0
  go_wp2_with fail
  have HB2 := below1 w1 (.cells #[.pointer (some ⟨b, 0, none⟩), .int .i64 lo, .int .i64 hi, .int .i64 0] 83)
  generalize w1.alloc (.cells #[.pointer (some ⟨b, 0, none⟩), .int .i64 lo, .int .i64 hi, .int .i64 0] 83) = W1 at *
  refine (vlines_fwd ((HH.out.up HB1.out).up HB2) 0 k n hn h2 h3).mono ?_
  rintro e w2 ⟨rfl, hb2⟩
  have HB3 := Lib.hid (up2 HB1.out (up2 HB2 hb2))
  clear HB2 hb2
  go_wp2_with fail
  refine bodyPost_ret (v := .tuple #[.int .i64 (linesF cs lo hi n k).1, .int .i64 (linesF cs lo hi n k).2, .int .i64 0]) (by simp [results, Tryz.f24, go_sem]) rfl ⟨rfl, HB3.out⟩
set_option maxHeartbeats 2000000 in
theorem lines_back (h : BufR w b cs pt lo hi) (k n : Nat) (hn : n ≤ 1000000) (hn1 : 1 ≤ n) (h2 : lo ≤ k) (h3 : k ≤ hi) :
    Calls Tryz.prog 24 #[.pointer (some ⟨b, 0, none⟩), .int .i64 k, .int .i64 (-(n : Int))] w fun e w' => e = .returned (.tuple #[.int .i64 (bwdN cs lo n (lineB cs lo k)).1, .int .i64 (bwdN cs lo n (lineB cs lo k)).2, .int .i64 0]) ∧ Below w.heap.size w w' := by
  have hl := h.len
  have HH := Lib.hid h
  clear h
  go_enter Tryz.func24, Tryz.ntmps24
  go_wp2_with fail
  have HB0 := Lib.hid (below1 w (.cells #[.int .i64 k] 3))
  have hc := (MapKept.heap_alloc w (.cells #[.int .i64 k] 3)).1
  generalize w.alloc (.cells #[.int .i64 k] 3) = W at *
  refine (look_ok (HH.out.up HB0.out) 0 k w.heap.size 1 (by simp only [World.cell?, hc]; rfl) h2 h3).mono ?_
  rintro e w1 ⟨rfl, hb1⟩
  have HB1 := Lib.hid (up2 HB0.out hb1)
  clear hb1 hc HB0
  go_wp2_with fail
  have HB2 := below1 w1 (.cells #[.pointer (some ⟨b, 0, none⟩), .int .i64 lo, .int .i64 hi, .int .i64 0] 83)
  generalize w1.alloc (.cells #[.pointer (some ⟨b, 0, none⟩), .int .i64 lo, .int .i64 hi, .int .i64 0] 83) = W1 at *
  refine (vlines_back ((HH.out.up HB1.out).up HB2) 0 k n hn hn1 h2 h3).mono ?_
  rintro e w2 ⟨rfl, hb2⟩
  have HB3 := Lib.hid (up2 HB1.out (up2 HB2 hb2))
  clear HB2 hb2
  go_wp2_with fail
  refine bodyPost_ret (v := .tuple #[.int .i64 (bwdN cs lo n (lineB cs lo k)).1, .int .i64 (bwdN cs lo n (lineB cs lo k)).2, .int .i64 0]) (by simp [results, Tryz.f24, go_sem]) rfl ⟨rfl, HB3.out⟩
end
end Go.Proofs.YtphdkcdkhklicaaGreatDoor
/- package runes: Word. -/
namespace Go.Proofs.YtphdkcdkhklicaaGreatDoor
open Go.RowKit
set_option linter.unusedVariables false
set_option linter.unusedSimpArgs false
set_option maxRecDepth 100000 in
set_option maxHeartbeats 1000000 in
theorem word_ok (c : Int) (w : World) : Calls Tryz.prog 92 #[.int .i64 c] w fun e w' => e = .returned (.bool (inS c wordL)) ∧ Below w.heap.size w w' := by
  obtain ⟨R, hR⟩ : ∃ R, R = inS c wordL := ⟨_, rfl⟩
  rw [← hR]
  have HR := Lib.hid hR
  clear hR
  go_enter Tryz.func92, Tryz.ntmps92
  go_wp2_with (refine wpList_fresh rfl 173 _ _ rfl wW _ _ _ rfl (by simp) rfl (by as_aux_lemma => kernel_rfl) (by as_aux_lemma => kernel_rfl) (by as_aux_lemma => kernel_rfl) ?_)
  have HB0 := Lib.hid (below1 w (.cells wW 173))
  have g0 : (w.alloc (.cells wW 173)).heap[w.heap.size]? = some (.cells wW 173) := (MapKept.heap_alloc w _).1
  have r0 := RSl.arr (enc := encSp) (zs := wordL) g0 (by kernel_rfl)
  generalize w.alloc (.cells wW 173) = W at *
  have i0 := in_any (c := c) r0 18 (by decide) (by decide)
  rw [← HR.out] at i0
  refine i0.mono ?_
  rintro e w1 ⟨rfl, hb⟩
  have HB1 := Lib.hid (up2 HB0.out hb)
  clear hb HB0 r0 g0 i0 HR
  go_wp2_with fail
  go_ret
  exact ⟨rfl, HB1.out⟩
end Go.Proofs.YtphdkcdkhklicaaGreatDoor
/- package column: IndentText; look and its callers without a buffer. -/
namespace Go.Proofs.YtphdkcdkhklicaaGreatDoor
open Go.RowKit
set_option linter.unusedVariables false
set_option linter.unusedSimpArgs false
theorem repExtra : Builder.Extra Tryz.prog Tryz.laysRepeat_ren where
  sizeBuilder := by kernel_rfl
  liesBuilder := by kernel_rfl
  t5 := Tryz.underlying5
  a5 := Tryz.isAgg5
  z5 := Tryz.sizeOf5
  v5 := Tryz.zeroValue5
  infoByte := by kernel_rfl
  cellsByte := by kernel_rfl
  sizeByte := by kernel_rfl
  neB5 := by decide
/-- n copies of a byte. -/
def repB (c : UInt8) (n : Nat) : ByteArray := ⟨(List.replicate n c).toArray⟩
theorem repeatL_one (c : UInt8) : ∀ n, Lib.repeatL [c] n = List.replicate n c
  | 0 => rfl
  | n + 1 => by
    have := repeatL_one c n
    simp [Lib.repeatL, List.replicate_succ] at this ⊢
    first | exact this | simp [this]
theorem repeat_ok (c : UInt8) (n : Nat) (hn : n ≤ 1000000) (w : World) : Calls Tryz.prog 75 #[.string ⟨#[c]⟩, .int .i64 n] w fun e w' => e = .returned (.string (repB c n)) ∧ Below w.heap.size w w' := by
  have := Any.strings_Repeat Tryz.laysRepeat repExtra ⟨#[c]⟩ n w (by omega) (by show 1 * n ≤ _; omega)
  refine this.mono ?_
  rintro e w' ⟨he, hb⟩
  refine ⟨?_, hb⟩
  rw [he]
  unfold repB
  rw [← repeatL_one]
theorem repB_size (c : UInt8) (n : Nat) : (repB c n).size = n := by simp [repB, ByteArray.size]
/-- The tabs of an indentation. -/
def tabsN (col tab : Nat) (tabs : Bool) : Nat := if tabs then col / tab else 0
def indT (col tab : Nat) (tabs : Bool) : ByteArray := repB 9 (tabsN col tab tabs) ++ repB 32 (col - tabsN col tab tabs * tab)
section
variable {w w' : World}
theorem tabbed_no (tab : Int) (h : tab < 1 ∨ 64 < tab) (w : World) : Calls Tryz.prog 44 #[.int .i64 tab] w fun e w' => e = .returned (.bool false) ∧ w = w' := by
  by_cases h1 : tab < 1
  · have d1 : decide ((1 : Int) ≤ tab) = false := decide_eq_false (by omega)
    clear h h1
    go_enter Tryz.func44, Tryz.ntmps44
    go_wp2_with fail
    go_ret
    exact ⟨rfl, rfl⟩
  · have d1 : decide ((1 : Int) ≤ tab) = true := decide_eq_true (by omega)
    have d2 : decide (tab ≤ (64 : Int)) = false := decide_eq_false (by omega)
    clear h h1
    go_enter Tryz.func44, Tryz.ntmps44
    go_wp2_with fail
    go_ret
    exact ⟨rfl, rfl⟩
set_option maxHeartbeats 2000000 in
theorem itext_no (col tab : Int) (tabs : Bool) (h : col < 0 ∨ 1000 < col ∨ tab < 1 ∨ 64 < tab) (w : World) : Calls Tryz.prog 27 #[.int .i64 col, .int .i64 tab, .bool tabs] w fun e w' => e = .returned (.tuple #[.string ⟨#[]⟩, .int .i64 2]) ∧ w = w' := by
  by_cases h1 : col < 0
  · have d1 : decide (col < (0 : Int)) = true := decide_eq_true h1
    clear h h1
    go_enter Tryz.func27, Tryz.ntmps27
    go_wp2_with fail
    go_ret2
    exact ⟨rfl, rfl⟩
  · have d1 : decide (col < (0 : Int)) = false := decide_eq_false h1
    by_cases h2 : 1000 < col
    · have d2 : decide ((1000 : Int) < col) = true := decide_eq_true h2
      clear h h1 h2
      go_enter Tryz.func27, Tryz.ntmps27
      go_wp2_with fail
      go_ret2
      exact ⟨rfl, rfl⟩
    · have d2 : decide ((1000 : Int) < col) = false := decide_eq_false h2
      have HT := Lib.hid (tabbed_no tab (by omega) w)
      clear h h1 h2
      go_enter Tryz.func27, Tryz.ntmps27
      go_wp2_with fail
      refine HT.out.mono ?_
      rintro e w' ⟨rfl, rfl⟩
      go_wp2_with fail
      go_ret2
      exact ⟨rfl, rfl⟩
set_option maxHeartbeats 2000000 in
theorem itext_ok (col tab : Nat) (tabs : Bool) (h1 : col ≤ 1000) (h2 : 1 ≤ tab) (h3 : tab ≤ 64) (w : World) : Calls Tryz.prog 27 #[.int .i64 col, .int .i64 tab, .bool tabs] w fun e w' => e = .returned (.tuple #[.string (indT col tab tabs), .int .i64 0]) ∧ Below w.heap.size w w' := by
  have d1 : decide ((col : Int) < (0 : Int)) = false := decide_eq_false (by omega)
  have d2 : decide ((1000 : Int) < (col : Int)) = false := decide_eq_false (by omega)
  have HT := Lib.hid (tabbed_ok tab h2 h3 w)
  have hn : tabsN col tab tabs * tab ≤ col := by
    unfold tabsN
    split
    · exact Nat.div_mul_le_self _ _
    · omega
  have hn2 : tabsN col tab tabs ≤ 1000 := by
    unfold tabsN
    split
    · exact Nat.le_trans (Nat.div_le_self _ _) h1
    · omega
  have hq : tabs = true → (col : Int).tdiv tab = ((tabsN col tab tabs : Nat) : Int) := fun h => by unfold tabsN; rw [if_pos h]; simp
  have hq2 : tabs = true → (col : Int) / tab = ((tabsN col tab tabs : Nat) : Int) := fun h => by unfold tabsN; rw [if_pos h]; simp
  have hz : tabs = false → tabsN col tab tabs = 0 := fun h => by unfold tabsN; rw [if_neg (by simp [h])]
  unfold indT
  obtain ⟨n, hnn⟩ : ∃ n, n = tabsN col tab tabs := ⟨_, rfl⟩
  rw [← hnn] at hn hn2 hq hq2 hz ⊢
  obtain ⟨m, hm⟩ : ∃ m, m = n * tab := ⟨_, rfl⟩
  rw [← hm] at hn ⊢
  have hmm : (n : Int) * (tab : Int) = (m : Int) := by rw [hm]; simp
  obtain ⟨k, hk⟩ : ∃ k, k = col - m := ⟨_, rfl⟩
  rw [← hk]
  have s1 : IntKind.i64.wrap ((n : Int) * (tab : Int)) = (m : Int) := by rw [hmm]; exact IntWalk.i64_in _ (by omega)
  have s2 : IntKind.i64.wrap ((col : Int) - (m : Int)) = (k : Int) := by rw [IntWalk.i64_in _ (by omega)]; omega
  have R1 := Lib.hid (fun w => repeat_ok 9 n (by omega) w)
  have R2 := Lib.hid (fun w => repeat_ok 32 k (by omega) w)
  have hs1 := repB_size 9 n
  have hs2 := repB_size 32 k
  have hne : ((tab : Int) == 0) = false := by simp; omega
  have hne2 : (tab = 0) = False := eq_false (by omega)
  have HS := Lib.hid (⟨hs1, hs2, hn2, h1, hk, hm⟩ : _ ∧ _ ∧ _ ∧ _ ∧ _ ∧ _)
  cases tabs with
  | true =>
    have q1 := hq rfl
    have q2 := hq2 rfl
    have s3 : IntKind.i64.wrap ((n : Nat) : Int) = (n : Int) := IntWalk.i64_in _ (by omega)
    clear hq hq2 hz hmm hn hn2 hs1 hs2 hk hm hnn h1 h2 h3
    go_enter Tryz.func27, Tryz.ntmps27
    go_wp2_with fail
    refine HT.out.mono ?_
    rintro e w' ⟨rfl, rfl⟩
    go_wp2_with fail
    refine (R1.out w).mono ?_
    rintro e w1 ⟨rfl, hb1⟩
    have B1 := Lib.hid hb1
    clear hb1
    go_wp2_with fail
    refine (R2.out w1).mono ?_
    rintro e w2 ⟨rfl, hb2⟩
    have B2 := Lib.hid (up2 B1.out hb2)
    clear hb2
    have hadd : (9223372036854775807 < (repB 9 n).size + (repB 32 k).size) = False := eq_false (by have := HS.out; omega)
    go_wp2_with fail
    go_ret2
    exact ⟨rfl, B2.out⟩
  | false =>
    obtain rfl := hz rfl
    have hm0 : m = 0 := by rw [hm]; simp
    have hk0 : k = col := by omega
    subst hk0
    have R1' := Lib.hid (fun w => (R1.out w : Calls Tryz.prog 75 #[.string ⟨#[9]⟩, .int .i64 0] w _))
    have R2' := Lib.hid (fun w => (R2.out w : Calls Tryz.prog 75 #[.string ⟨#[32]⟩, .int .i64 k] w _))
    have s3 : IntKind.i64.wrap (k : Int) = (k : Int) := IntWalk.i64_in _ (by omega)
    clear hq hq2 hz hmm hn hn2 hs1 hs2 hk hm hnn h1 h2 h3 hm0 s1 s2 R1 R2
    go_enter Tryz.func27, Tryz.ntmps27
    go_wp2_with fail
    refine HT.out.mono ?_
    rintro e w' ⟨rfl, rfl⟩
    go_wp2_with fail
    refine (R1'.out w).mono ?_
    rintro e w1 ⟨rfl, hb1⟩
    have B1 := Lib.hid hb1
    clear hb1
    go_wp2_with fail
    refine (R2'.out w1).mono ?_
    rintro e w2 ⟨rfl, hb2⟩
    have B2 := Lib.hid (up2 B1.out hb2)
    clear hb2
    have hadd : (9223372036854775807 < (repB 9 0).size + (repB 32 k).size) = False := eq_false (by have := HS.out; omega)
    go_wp2_with fail
    go_ret2
    exact ⟨rfl, B2.out⟩
/-- Some indentation, or none. -/
theorem itext_any (col tab : Int) (tabs : Bool) (w : World) : Calls Tryz.prog 27 #[.int .i64 col, .int .i64 tab, .bool tabs] w fun e w' => ∃ s x, e = .returned (.tuple #[.string s, .int .i64 x]) ∧ Below w.heap.size w w' := by
  by_cases h : col < 0 ∨ 1000 < col ∨ tab < 1 ∨ 64 < tab
  · exact (itext_no col tab tabs h w).mono fun e w' ⟨he, hw⟩ => ⟨_, _, he, hw ▸ Below.refl _ _⟩
  · obtain ⟨c, rfl⟩ : ∃ c : Nat, col = c := ⟨col.toNat, by omega⟩
    obtain ⟨t, rfl⟩ : ∃ t : Nat, tab = t := ⟨tab.toNat, by omega⟩
    exact (itext_ok c t tabs (by omega) (by omega) (by omega) w).mono fun e w' ⟨he, hw⟩ => ⟨_, _, he, hw⟩
end
end Go.Proofs.YtphdkcdkhklicaaGreatDoor
/- package column: indent, Indent. -/
namespace Go.Proofs.YtphdkcdkhklicaaGreatDoor
open Go.RowKit
set_option linter.unusedVariables false
set_option linter.unusedSimpArgs false
/-- The first character from i on, within n, that is no blank. -/
def indF (cs : List Nat) : Nat → Nat → Nat
  | 0, i => i
  | n + 1, i => if chr cs i = 32 ∨ chr cs i = 9 then indF cs n (i + 1) else i
def indN (cs : List Nat) (b e : Nat) : Nat := indF cs (e - b) b
theorem indF_is (cs : List Nat) : ∀ n i, i ≤ indF cs n i ∧ indF cs n i ≤ i + n ∧ (∀ j, i ≤ j → j < indF cs n i → chr cs j = 32 ∨ chr cs j = 9) ∧ (indF cs n i = i + n ∨ ¬ (chr cs (indF cs n i) = 32 ∨ chr cs (indF cs n i) = 9))
  | 0, i => ⟨Nat.le_refl _, Nat.le_refl _, fun j h1 h2 => by unfold indF at h2; omega, .inl rfl⟩
  | n + 1, i => by
    unfold indF
    split
    · rename_i h
      obtain ⟨a1, a2, a3, a4⟩ := indF_is cs n (i + 1)
      refine ⟨by omega, by omega, fun j h1 h2 => ?_, ?_⟩
      · by_cases e : j = i
        · subst e; exact h
        · exact a3 j (by omega) h2
      · exact a4.elim (fun e => .inl (by omega)) .inr
    · rename_i h
      exact ⟨Nat.le_refl _, by omega, fun j h1 h2 => by omega, .inr h⟩
theorem indN_is (cs : List Nat) {b e : Nat} (h : b ≤ e) : b ≤ indN cs b e ∧ indN cs b e ≤ e ∧ (∀ j, b ≤ j → j < indN cs b e → chr cs j = 32 ∨ chr cs j = 9) ∧ (indN cs b e = e ∨ ¬ (chr cs (indN cs b e) = 32 ∨ chr cs (indN cs b e) = 9)) := by
  obtain ⟨a1, a2, a3, a4⟩ := indF_is cs (e - b) b
  unfold indN
  exact ⟨a1, by omega, a3, a4.elim (fun q => .inl (by omega)) .inr⟩
theorem indN_eq (cs : List Nat) {b e i : Nat} (h1 : b ≤ i) (h2 : i ≤ e) (h3 : ∀ j, b ≤ j → j < i → chr cs j = 32 ∨ chr cs j = 9) (h4 : i = e ∨ ¬ (chr cs i = 32 ∨ chr cs i = 9)) : indN cs b e = i := by
  obtain ⟨a1, a2, a3, a4⟩ := indN_is cs (b := b) (e := e) (by omega)
  rcases Nat.lt_trichotomy (indN cs b e) i with h | h | h
  · rcases a4 with a | a
    · omega
    · exact absurd (h3 _ a1 h) a
  · exact h
  · rcases h4 with a | a
    · omega
    · exact absurd (a3 i h1 h) a
section
variable {w w' : World} {b pt lo hi tab : Nat} {cs : List Nat}
theorem blank_ok (c : Nat) (w : World) : Calls Tryz.prog 53 #[.int .i64 c] w fun e w' => e = .returned (.bool (decide (c = 32 ∨ c = 9))) ∧ w = w' := by
  by_cases h : c = 32
  · subst h
    go_enter Tryz.func53, Tryz.ntmps53
    go_wp2_with fail
    go_ret
    exact ⟨rfl, rfl⟩
  · have d1 : ((c : Int) == (32 : Int)) = false := by rw [beq_eq_false_iff_ne]; omega
    have d2 : ((c : Int) = (32 : Int)) = False := eq_false (by omega)
    have e : decide (c = 32 ∨ c = 9) = ((c : Int) == (9 : Int)) := by
      by_cases h9 : c = 9
      · subst h9; rfl
      · rw [show ((c : Int) == (9 : Int)) = false by rw [beq_eq_false_iff_ne]; omega]; simp [h, h9]
    rw [e]
    clear e h
    go_enter Tryz.func53, Tryz.ntmps53
    go_wp2_with fail
    go_ret
    exact ⟨rfl, rfl⟩
set_option maxRecDepth 100000 in
set_option maxHeartbeats 2000000 in
theorem vindent (h : BufR w b cs pt lo hi) (tab k : Nat) (h2 : lo ≤ k) (h3 : k ≤ hi) :
    Calls Tryz.prog 48 #[vwV b lo hi tab, .int .i64 k] w fun e w' => e = .returned (.int .i64 (indN cs (lineB cs lo k) (lineE cs hi k) : Nat)) ∧ Below w.heap.size w w' := by
  have hl := h.len
  have HH := Lib.hid h
  have hB2 : lineB cs lo k ≤ k := lineB_le k h2
  have hB1 : lo ≤ lineB cs lo k := lineB_ge k
  have hE1 : k ≤ lineE cs hi k := lineE_ge k
  have hE2 : lineE cs hi k ≤ hi := lineE_le k h3
  have hq := indN_is cs (b := lineB cs lo k) (e := lineE cs hi k) (by omega)
  obtain ⟨R, hR⟩ : ∃ R, R = indN cs (lineB cs lo k) (lineE cs hi k) := ⟨_, rfl⟩
  rw [← hR] at hq ⊢
  have HQ := Lib.hid hq
  have HB0 := below1 w (.cells #[.pointer (some ⟨b, 0, none⟩), .int .i64 lo, .int .i64 hi, .int .i64 tab] 83)
  have hv := VwI.made w b lo hi tab (T := 83)
  have HV := Lib.hid hv
  have B0 := Lib.hid HB0
  clear h hq hv HB0 hR
  go_enter Tryz.func48, Tryz.ntmps48
  go_wp2_with fail
  generalize w.alloc (.cells #[.pointer (some ⟨b, 0, none⟩), .int .i64 lo, .int .i64 hi, .int .i64 tab] 83) = W at *
  have X0 : ∀ X : UpW W.heap.size W, X.w.cell? ⟨w.heap.size, 0, none⟩ = some (.pointer (some ⟨b, 0, none⟩)) := fun X => (HV.out.up X.up).c0
  have X1 : ∀ X : UpW W.heap.size W, X.w.cell? ⟨w.heap.size, 1, none⟩ = some (.int .i64 lo) := fun X => (HV.out.up X.up).c1
  have X2 : ∀ X : UpW W.heap.size W, X.w.cell? ⟨w.heap.size, 2, none⟩ = some (.int .i64 hi) := fun X => (HV.out.up X.up).c2
  have X3 : ∀ X : UpW W.heap.size W, X.w.cell? ⟨w.heap.size, 3, none⟩ = some (.int .i64 tab) := fun X => (HV.out.up X.up).c3
  refine wp_region_up W.heap.size (by kernel_rfl) (by kernel_rfl) ?_
  repeat (go_big_quiet_step (first | exact Calls.up ‹_› (Nat.le_refl _) (vbegin ((HH.out.up B0.out).up (UpW.up ‹_›)) tab k hl.2.1 h2 h3) | exact Calls.up ‹_› (Nat.le_refl _) (vend ((HH.out.up B0.out).up (UpW.up ‹_›)) tab k (by omega) h3)))
  refine wpQuiet_nil ?_
  rintro ⟨w1, hb1⟩
  dsimp only
  have HV1 := Lib.hid (HV.out.up hb1)
  have B1 := Lib.hid (up2 B0.out hb1)
  clear X0 X1 X2 X3 hb1 HV B0
  generalize lineB cs lo k = LB at *
  generalize lineE cs hi k = LE at *
  go_wp2_with fail
  go_loopw [5, 7, 8] (fun va _ _ wr => ∃ i : Nat, LB ≤ i ∧ i ≤ R ∧ va = .int .i64 i ∧ Below w1.heap.size w1 wr) (fun va _ _ _ => LE + 1 - (intOf va).toNat)
  case atStart => exact ⟨LB, Nat.le_refl _, HQ.out.1, rfl, Below.refl _ _⟩
  case round =>
    obtain ⟨i, i1, i2, rfl, hb⟩ := hrel
    have HBr := Lib.hid hb
    have v0 := (HV1.out.up hb).c0
    clear hb
    have hRE := HQ.out.2.1
    by_cases hlt : i < LE
    · have d1 : decide ((i : Int) < (LE : Int)) = true := decide_eq_true (by omega)
      have d2 : ((i : Int) < (LE : Int)) = True := eq_true (by omega)
      have s1 : IntKind.i64.wrap ((i : Int) + 1) = ((i + 1 : Nat) : Int) := by rw [IntWalk.i64_in _ (by omega)]; omega
      have HCH := Lib.hid (bchar ((HH.out.up B1.out).up HBr.out) i (by omega) (by omega))
      obtain ⟨c, hc⟩ : ∃ c, c = chr cs i := ⟨_, rfl⟩
      rw [← hc] at HCH
      have HCc := Lib.hid hc
      clear hc
      go_wp2_with fail
      refine HCH.out.mono ?_
      rintro e w2 ⟨rfl, hb2⟩
      have B2 := Lib.hid (up2 HBr.out hb2)
      clear hb2 HCH v0
      have HBK := Lib.hid (blank_ok c w2)
      by_cases hbl : c = 32 ∨ c = 9
      · have hir : i < R := by
          rcases Nat.lt_or_ge i R with q | q
          · exact q
          · have e : i = R := by omega
            rcases HQ.out.2.2.2 with a | a
            · omega
            · rw [← e, ← HCc.out] at a; exact absurd hbl a
        rw [decide_eq_true hbl] at HBK
        clear hbl
        go_wp2_with fail
        refine HBK.out.mono ?_
        rintro e w3 ⟨rfl, rfl⟩
        go_wp2_with fail
        go_roundw
        case rel => exact ⟨i + 1, by omega, by omega, by first | rfl | go_num, B2.out⟩
        case measure => simp [intOf]; omega
      · have hir : i = R := by
          rcases Nat.lt_or_ge i R with q | q
          · exact absurd (by have := HQ.out.2.2.1 i i1 q; rwa [← HCc.out] at this) hbl
          · omega
        rw [decide_eq_false hbl] at HBK
        clear hbl
        go_wp2_with fail
        refine HBK.out.mono ?_
        rintro e w3 ⟨rfl, rfl⟩
        go_wp2_with fail
        go_ret
        exact ⟨by first | rfl | (rw [hir]; rfl), up2 B1.out B2.out⟩
    · have hir : i = R := by omega
      have d1 : decide ((i : Int) < (LE : Int)) = false := decide_eq_false (by omega)
      have d2 : ((i : Int) < (LE : Int)) = False := eq_false (by omega)
      go_wp2_with fail
      go_ret
      exact ⟨by first | rfl | (rw [hir]; rfl), up2 B1.out HBr.out⟩
set_option maxHeartbeats 2000000 in
theorem Indent_ok (h : BufR w b cs pt lo hi) (k tab : Nat) (ht1 : 1 ≤ tab) (ht2 : tab ≤ 64) (h2 : lo ≤ k) (h3 : k ≤ hi) :
    Calls Tryz.prog 15 #[.pointer (some ⟨b, 0, none⟩), .int .i64 k, .int .i64 tab] w fun e w' => e = .returned (.tuple #[.int .i64 (indN cs (lineB cs lo k) (lineE cs hi k) : Nat), .int .i64 (colN widN cs tab (lineB cs lo (indN cs (lineB cs lo k) (lineE cs hi k))) (indN cs (lineB cs lo k) (lineE cs hi k)) : Nat), .int .i64 0]) ∧ Below w.heap.size w w' := by
  have hl := h.len
  have HH := Lib.hid h
  have hB2 : lineB cs lo k ≤ k := lineB_le k h2
  have hB1 : lo ≤ lineB cs lo k := lineB_ge k
  have hE1 : k ≤ lineE cs hi k := lineE_ge k
  have hE2 : lineE cs hi k ≤ hi := lineE_le k h3
  have hq := indN_is cs (b := lineB cs lo k) (e := lineE cs hi k) (by omega)
  clear h
  obtain ⟨R, hR⟩ : ∃ R, R = indN cs (lineB cs lo k) (lineE cs hi k) := ⟨_, rfl⟩
  rw [← hR] at hq ⊢
  have HR := Lib.hid hR
  have HQ := Lib.hid (show lo ≤ R ∧ R ≤ hi by omega)
  clear hR hq hB1 hB2 hE1 hE2
  go_enter Tryz.func15, Tryz.ntmps15
  go_wp2_with fail
  refine (tabbed_ok tab ht1 ht2 w).mono ?_
  rintro e w1 ⟨rfl, rfl⟩
  go_wp2_with fail
  have HB0 := Lib.hid (below1 w (.cells #[.int .i64 k] 3))
  have hc := (MapKept.heap_alloc w (.cells #[.int .i64 k] 3)).1
  generalize w.alloc (.cells #[.int .i64 k] 3) = W at *
  refine (look_ok (HH.out.up HB0.out) tab k w.heap.size 1 (by simp only [World.cell?, hc]; rfl) h2 h3).mono ?_
  rintro e w1 ⟨rfl, hb1⟩
  have HB1 := Lib.hid (up2 HB0.out hb1)
  clear hb1 hc HB0
  go_wp2_with fail
  have HB2 := below1 w1 (.cells #[.pointer (some ⟨b, 0, none⟩), .int .i64 lo, .int .i64 hi, .int .i64 tab] 83)
  have hv := VwI.made w1 b lo hi tab (T := 83)
  generalize w1.alloc (.cells #[.pointer (some ⟨b, 0, none⟩), .int .i64 lo, .int .i64 hi, .int .i64 tab] 83) = W1 at *
  have hvi := vindent ((HH.out.up HB1.out).up HB2) tab k h2 h3
  rw [← HR.out] at hvi
  refine hvi.mono ?_
  rintro e w2 ⟨rfl, hb2⟩
  have HV2 := hv.up hb2
  have v0 := HV2.c0
  have v1 := HV2.c1
  have v2 := HV2.c2
  have v3 := HV2.c3
  have HB3 := Lib.hid (up2 HB1.out (up2 HB2 hb2))
  have HC := Lib.hid (vcolumn (HH.out.up HB3.out) tab R ht1 ht2 HQ.out.1 HQ.out.2)
  clear HB2 hb2 hvi hv HV2
  go_wp2_with fail
  refine HC.out.mono ?_
  rintro e w3 ⟨rfl, hb3⟩
  go_wp2_with fail
  exact bodyPost_ret (v := .tuple #[.int .i64 (R : Int), .int .i64 (colN widN cs tab (lineB cs lo R) R : Nat), .int .i64 0]) (by simp [results, Tryz.f15, go_sem]) rfl ⟨rfl, up2 HB3.out hb3⟩
end
end Go.Proofs.YtphdkcdkhklicaaGreatDoor
/- A fresh text: move, grow. -/
namespace Go.Proofs.YtphdkcdkhklicaaGreatDoor
open Go.RowKit
set_option linter.unusedVariables false
set_option linter.unusedSimpArgs false
/-- The cells of a text's block. -/
abbrev txtC (g L cap st en : Nat) (f : Value) : Array Value := #[.slice (some ⟨g, 0, none⟩) L cap, .int .i64 st, .int .i64 en, f]
section
variable {w w' : World} {t g : Nat}
set_option maxHeartbeats 1000000 in
theorem gmove0 (f : Value) (h : Blk w t 125 (txtC g 0 0 0 0 f)) : Calls Tryz.prog 183 #[.pointer (some ⟨t, 0, none⟩), .int .i64 0] w fun e w' => e = .returned (.tuple #[]) ∧ Only (fun k => k = t) w w' ∧ Blk w' t 125 (txtC g 0 0 0 0 f) := by
  have c0 := h.cell (j := 0) rfl
  have c1 := h.cell (j := 1) rfl
  have c2 := h.cell (j := 2) rfl
  have f1 := h.fz 1
  have f2 := h.fz 2
  have cp := fun w ty => run_copy_none (P := Tryz.prog) w 123 123 ty 21 (some ⟨g, 0, none⟩) (some ⟨g, 0, none⟩) 0 0 0 0 Tryz.underlying123 (by kernel_rfl) rfl
  have H := Lib.hid h
  clear h
  go_enter Tryz.func183, Tryz.ntmps183
  go_wp2_with fail
  go_region
  go_wp2_with fail
  go_region
  go_wp2_with fail
  go_end0
  refine ⟨rfl, ((((Only.refl (fun k => k = t) w).setCell (p := ⟨t, 1, none⟩) rfl _).setCell (p := ⟨t, 2, none⟩) rfl _).drew).drew, ?_⟩
  exact ((H.out.set (j := 1) (by simp) (.int .i64 0)).set (j := 2) (by simp) (.int .i64 0))
set_option maxRecDepth 100000 in
set_option maxHeartbeats 1000000 in
theorem ggrow0 (f : Value) (n : Nat) (hn : n ≤ 100000) (h : Blk w t 125 (txtC g 0 0 0 0 f)) (h1 : 1 ≤ n) : Calls Tryz.prog 184 #[.pointer (some ⟨t, 0, none⟩), .int .i64 n] w fun e w' => e = .returned (.tuple #[]) ∧ Only (fun k => k = t) w w' ∧
    Blk w' t 125 (txtC w.heap.size (n + 16) (n + 16) 0 (n + 16) f) ∧ w'.heap.size = w.heap.size + 1 ∧ Blk w' w.heap.size 21 (Array.replicate (n + 16) (.int .i32 0)) := by
  have c0 := h.cell (j := 0) rfl
  have c1 := h.cell (j := 1) rfl
  have c2 := h.cell (j := 2) rfl
  have f0 := h.fz 0
  have f2 := h.fz 2
  have ht := h.lt
  have d1 : decide ((n : Int) ≤ 0) = false := decide_eq_false (by omega)
  have s1 : IntKind.i64.wrap ((n : Int) - 0) = (n : Int) := by rw [IntWalk.i64_in _ (by omega)]; omega
  have s2 : IntKind.i64.wrap ((n : Int) + 0) = (n : Int) := by rw [IntWalk.i64_in _ (by omega)]; omega
  have hmk : ∀ w : World, (Instr.makeSlice 123 (.int .i64 ((n : Int) + 16)) (.int .i64 ((n : Int) + 16))).run Tryz.prog w = .ok (.slice (some ⟨w.heap.size, 0, none⟩) (n + 16) (n + 16)) (w.alloc (.cells (Array.replicate (n + 16) (.int .i32 0)) 21)) := fun w => by
    obtain ⟨i, hi, hsz, hby, hz⟩ : ∃ i, Tryz.prog.info? 21 = some i ∧ i.size = 1 ∧ i.bytes = 4 ∧ i.zero = some (.int .i32 0) := ⟨(Tryz.prog.info? 21).get (by kernel_rfl), (Option.some_get _).symm, by kernel_rfl, by kernel_rfl, by kernel_rfl⟩
    have hr := run_makeSlice (P := Tryz.prog) (w := w) 123 21 i (.int .i32 0) Tryz.underlying123 hi hz .i64 .i64 ((n : Int) + 16) ((n : Int) + 16) (by omega) (by omega) (by rw [hsz]; omega) (by rw [hby]; omega) (by omega)
    rw [hr, hsz]
    have e1 : ((n : Int) + 16).toNat = n + 16 := by omega
    have e2 : madeCells (Value.int .i32 0).cells ((n + 16) * 1) = Array.replicate (n + 16) (.int .i32 0) := by
      rw [Nat.mul_one]
      apply Array.ext
      · simp [madeCells]
      · intro j h1 h2
        simp [madeCells, Value.cells, Nat.mod_one]
    rw [e1, e2]
  generalize hZ : Array.replicate (n + 16) (Value.int .i32 0) = Z at *
  have cp := fun w ty d dLen dCap => run_copy_none (P := Tryz.prog) w 123 123 ty 21 d (some ⟨g, 0, none⟩) dLen dCap 0 0 Tryz.underlying123 (by kernel_rfl) (Nat.zero_min dLen)
  have H := Lib.hid h
  clear h
  go_enter Tryz.func184, Tryz.ntmps184
  go_wp2_with fail
  go_region
  go_wp2_with fail
  go_region
  go_wp2_with fail
  go_region
  go_wp2_with fail
  go_end0
  have hb2 := (H.out.set (j := 0) (by simp) (.slice (some ⟨w.heap.size, 0, none⟩) (n + 16) (n + 16))).set (j := 2) (by simp) (.int .i64 ((n : Int) + 16))
  have ho := ((Only.refl (fun k => k = t) w).setCell (p := ⟨t, 0, none⟩) rfl (.slice (some ⟨w.heap.size, 0, none⟩) (n + 16) (n + 16))).setCell (p := ⟨t, 2, none⟩) rfl (.int .i64 ((n : Int) + 16))
  have hs2 : ((w.setCell ⟨t, 0, none⟩ (.slice (some ⟨w.heap.size, 0, none⟩) (n + 16) (n + 16))).setCell ⟨t, 2, none⟩ (.int .i64 ((n : Int) + 16))).heap.size = w.heap.size := by simp
  generalize (w.setCell ⟨t, 0, none⟩ (.slice (some ⟨w.heap.size, 0, none⟩) (n + 16) (n + 16))).setCell ⟨t, 2, none⟩ (.int .i64 ((n : Int) + 16)) = W at *
  refine ⟨rfl, (((ho.alloc _).drew).drew).drew, ?_, ?_, ?_⟩
  · exact (hb2.up (below1 W (.cells Z 21)) : Blk _ _ _ _)
  · show (W.alloc (.cells Z 21)).heap.size = _
    simp [hs2]
  · have := Blk.made W 21 Z
    rw [hs2] at this
    exact this
end
end Go.Proofs.YtphdkcdkhklicaaGreatDoor
/- Package copyistref01: tail, Is, point, List, Valid, Len. -/
namespace Go.Proofs.YtphdkcdkhklicaaGreatDoor
open Go.RowKit
set_option linter.unusedVariables false
set_option linter.unusedSimpArgs false

theorem bAt_get (s : ByteArray) (i : Nat) (h : i < s.size) : bAt s.data.toList i = s[i].toNat := by
  unfold bAt
  rw [List.getD_eq_getElem?_getD, List.getElem?_eq_getElem (by simpa using h)]
  rfl
set_option maxHeartbeats 400000 in
theorem tail_yes (s : ByteArray) (i : Nat) (w : World) (hs : s.size ≤ 1000000000) (hi : i < 10) (h : tlN s.size i (bAt s.data.toList i)) : Calls Tryz.prog 173 #[.string s, .int .i64 i] w fun e w' => e = .returned (.bool true) ∧ w = w' := by
  obtain ⟨h1, h2, h3⟩ := h
  rw [bAt_get s i h1] at h2 h3
  go_enter Tryz.func173, Tryz.ntmps173
  go_wp2
  go_ret
  exact ⟨ret_bool (by first | (simp only [decide_eq_true_eq, decide_eq_false_iff_not]; omega) | rfl), rfl⟩
set_option maxHeartbeats 400000 in
theorem tail_no (s : ByteArray) (i : Nat) (w : World) (hs : s.size ≤ 1000000000) (hi : i < 10) (h : ¬ tlN s.size i (bAt s.data.toList i)) : Calls Tryz.prog 173 #[.string s, .int .i64 i] w fun e w' => e = .returned (.bool false) ∧ w = w' := by
  by_cases h1 : i < s.size
  · unfold tlN at h
    rw [bAt_get s i h1] at h
    by_cases h2 : s[i].toNat < 128
    · clear h
      go_enter Tryz.func173, Tryz.ntmps173
      go_wp2
      go_ret
      exact ⟨ret_bool (by first | (simp only [decide_eq_true_eq, decide_eq_false_iff_not]; omega) | rfl), rfl⟩
    · have h3 : 192 ≤ s[i].toNat := by omega
      have h4 : 128 ≤ s[i].toNat := by omega
      clear h h2
      go_enter Tryz.func173, Tryz.ntmps173
      go_wp2
      go_ret
      exact ⟨ret_bool (by first | (simp only [decide_eq_true_eq, decide_eq_false_iff_not]; omega) | rfl), rfl⟩
  · have h2 : s.size ≤ i := by omega
    clear h h1
    go_enter Tryz.func173, Tryz.ntmps173
    go_wp2
    go_ret
    exact ⟨ret_bool (by first | (simp only [decide_eq_true_eq, decide_eq_false_iff_not]; omega) | rfl), rfl⟩
theorem isI (c : Nat) (h : isN c) : (c : Int) ≤ 1114111 ∧ ((c : Int) < 55296 ∨ (57343 : Int) < c) := by unfold isN at h; omega
theorem notI (c : Nat) (h : ¬ isN c) : (1114111 : Int) < c ∨ ((c : Int) ≤ 1114111 ∧ (55296 : Int) ≤ c ∧ (c : Int) ≤ 57343) := by unfold isN at h; omega
def IsI (c : Int) : Bool := decide (c ≤ 1114111) && (decide (c < 55296) || decide (57343 < c))
theorem is_yes1 (c : Int) (w : World) (h0 : 0 ≤ c) (h1 : c < 55296) : Calls Tryz.prog 174 #[.int .i64 c] w fun e w' => e = .returned (.bool true) ∧ w = w' := by
  have h3 : decide (c ≤ 1114111) = true := decide_eq_true (by omega)
  have h4 : decide (c < 55296) = true := decide_eq_true h1
  go_enter Tryz.func174, Tryz.ntmps174
  go_wp2
  go_ret
  exact ⟨rfl, rfl⟩
theorem is_yes2 (c : Int) (w : World) (h0 : 0 ≤ c) (h1 : c ≤ 1114111) (h2 : 57343 < c) : Calls Tryz.prog 174 #[.int .i64 c] w fun e w' => e = .returned (.bool true) ∧ w = w' := by
  have h3 : decide (c ≤ 1114111) = true := decide_eq_true h1
  have h4 : decide (c < 55296) = false := decide_eq_false (by omega)
  have h5 : decide (57343 < c) = true := decide_eq_true h2
  clear h1 h2
  go_enter Tryz.func174, Tryz.ntmps174
  go_wp2
  go_ret
  exact ⟨rfl, rfl⟩
theorem is_no1 (c : Int) (w : World) (h0 : 0 ≤ c) (h1 : 1114111 < c) : Calls Tryz.prog 174 #[.int .i64 c] w fun e w' => e = .returned (.bool false) ∧ w = w' := by
  have h3 : decide (c ≤ 1114111) = false := decide_eq_false (by omega)
  clear h1
  go_enter Tryz.func174, Tryz.ntmps174
  go_wp2
  go_ret
  exact ⟨rfl, rfl⟩
theorem is_no2 (c : Int) (w : World) (h0 : 55296 ≤ c) (h1 : c ≤ 57343) : Calls Tryz.prog 174 #[.int .i64 c] w fun e w' => e = .returned (.bool false) ∧ w = w' := by
  have h2 : 0 ≤ c := by omega
  have h3 : decide (c ≤ 1114111) = true := decide_eq_true (by omega)
  have h4 : decide (c < 55296) = false := decide_eq_false (by omega)
  have h5 : decide (57343 < c) = false := decide_eq_false (by omega)
  clear h0 h1
  go_enter Tryz.func174, Tryz.ntmps174
  go_wp2
  go_ret
  exact ⟨rfl, rfl⟩
theorem is_yes (c : Nat) (w : World) (h : isN c) : Calls Tryz.prog 174 #[.int .i64 c] w fun e w' => e = .returned (.bool true) ∧ w = w' := by
  obtain ⟨h1, h2 | h2⟩ := isI c h
  · exact is_yes1 c w (by omega) h2
  · exact is_yes2 c w (by omega) h1 h2
theorem is_no (c : Nat) (w : World) (h : ¬ isN c) : Calls Tryz.prog 174 #[.int .i64 c] w fun e w' => e = .returned (.bool false) ∧ w = w' := by
  rcases notI c h with h1 | ⟨_, h2, h3⟩
  · exact is_no1 c w (by omega) h1
  · exact is_no2 c w h2 h3
end Go.Proofs.YtphdkcdkhklicaaGreatDoor
