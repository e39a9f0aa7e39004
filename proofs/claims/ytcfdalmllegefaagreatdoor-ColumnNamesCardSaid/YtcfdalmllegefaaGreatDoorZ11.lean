import Derived.Test.YtcfdalmllegefaaGreatDoorZ10
import Derived.Test.YtcfdalmllegefaaGreatDoorZ04
import Derived.Test.YtcfdalmllegefaaGreatDoorZ06
import Derived.Test.YtcfdalmllegefaaGreatDoorZ01
import Derived.Laws.IdiomCopy
import Derived.BigRegion
/- package column: Begin, End, Column, Seek, Lines. -/
namespace Go.Proofs.YtcfdalmllegefaaGreatDoor
open Go.RowKit
set_option linter.unusedVariables false
set_option linter.unusedSimpArgs false
theorem cell_new (w : World) (c : Value) (cs : Array Value) (T : TypeId) : True := trivial
section
variable {w w' : World} {v b pt lo hi tab : Nat} {cs : List Nat}
set_option maxHeartbeats 2000000 in
theorem begin_ok (h : BufR w b cs pt lo hi) (k : Nat) (h2 : lo ≤ k) (h3 : k ≤ hi) :
    Calls Tryz.prog 20 #[.pointer (some ⟨b, 0, none⟩), .int .i64 k] w fun e w' => e = .returned (.tuple #[.int .i64 (lineB cs lo k), .int .i64 0]) ∧ Below w.heap.size w w' := by
  have hl := h.len
  have HH := Lib.hid h
  clear h
  go_enter Tryz.func20, Tryz.ntmps20
  go_wp2_with fail
  have HB0 := Lib.hid (below1 w (.cells #[.int .i64 k] 3))
  have hc := (MapKept.heap_alloc w (.cells #[.int .i64 k] 3)).1
  generalize w.alloc (.cells #[.int .i64 k] 3) = W at *
  refine (look_ok (HH.out.up HB0.out) 0 k w.heap.size 1 (by simp only [World.cell?, hc]; rfl) h2 h3).mono ?_
  rintro e w1 ⟨rfl, hb1⟩
  have HB1 := Lib.hid (up2 HB0.out hb1)
  clear hb1 hc HB0
  go_wp2_with fail
  have HB2 := below1 w1 (.cells #[.pointer (some ⟨b, 0, none⟩), .int .i64 lo, .int .i64 hi, .int .i64 0] 71)
  generalize w1.alloc (.cells #[.pointer (some ⟨b, 0, none⟩), .int .i64 lo, .int .i64 hi, .int .i64 0] 71) = W1 at *
  refine (vbegin ((HH.out.up HB1.out).up HB2) 0 k hl.2.1 h2 h3).mono ?_
  rintro e w2 ⟨rfl, hb2⟩
  have HB3 := Lib.hid (up2 HB1.out (up2 HB2 hb2))
  clear HB2 hb2
  go_wp2_with fail
  go_ret2
  exact ⟨rfl, HB3.out⟩
set_option maxHeartbeats 2000000 in
theorem end_ok (h : BufR w b cs pt lo hi) (k : Nat) (h2 : lo ≤ k) (h3 : k ≤ hi) :
    Calls Tryz.prog 22 #[.pointer (some ⟨b, 0, none⟩), .int .i64 k] w fun e w' => e = .returned (.tuple #[.int .i64 (lineE cs hi k), .int .i64 0]) ∧ Below w.heap.size w w' := by
  have hl := h.len
  have HH := Lib.hid h
  clear h
  go_enter Tryz.func22, Tryz.ntmps22
  go_wp2_with fail
  have HB0 := Lib.hid (below1 w (.cells #[.int .i64 k] 3))
  have hc := (MapKept.heap_alloc w (.cells #[.int .i64 k] 3)).1
  generalize w.alloc (.cells #[.int .i64 k] 3) = W at *
  refine (look_ok (HH.out.up HB0.out) 0 k w.heap.size 1 (by simp only [World.cell?, hc]; rfl) h2 h3).mono ?_
  rintro e w1 ⟨rfl, hb1⟩
  have HB1 := Lib.hid (up2 HB0.out hb1)
  clear hb1 hc HB0
  go_wp2_with fail
  have HB2 := below1 w1 (.cells #[.pointer (some ⟨b, 0, none⟩), .int .i64 lo, .int .i64 hi, .int .i64 0] 71)
  generalize w1.alloc (.cells #[.pointer (some ⟨b, 0, none⟩), .int .i64 lo, .int .i64 hi, .int .i64 0] 71) = W1 at *
  refine (vend ((HH.out.up HB1.out).up HB2) 0 k (by omega) h3).mono ?_
  rintro e w2 ⟨rfl, hb2⟩
  have HB3 := Lib.hid (up2 HB1.out (up2 HB2 hb2))
  clear HB2 hb2
  go_wp2_with fail
  go_ret2
  exact ⟨rfl, HB3.out⟩
set_option maxHeartbeats 2000000 in
theorem column_ok (h : BufR w b cs pt lo hi) (k tab : Nat) (ht1 : 1 ≤ tab) (ht2 : tab ≤ 64) (h2 : lo ≤ k) (h3 : k ≤ hi) :
    Calls Tryz.prog 16 #[.pointer (some ⟨b, 0, none⟩), .int .i64 k, .int .i64 tab] w fun e w' => e = .returned (.tuple #[.int .i64 (colN widN cs tab (lineB cs lo k) k), .int .i64 0]) ∧ Below w.heap.size w w' := by
  have hl := h.len
  have HH := Lib.hid h
  clear h
  go_enter Tryz.func16, Tryz.ntmps16
  go_wp2_with fail
  refine (tabbed_ok tab ht1 ht2 w).mono ?_
  rintro e w1 ⟨rfl, rfl⟩
  go_wp2_with fail
  have HB0 := Lib.hid (below1 w (.cells #[.int .i64 k] 3))
  have hc := (MapKept.heap_alloc w (.cells #[.int .i64 k] 3)).1
  generalize w.alloc (.cells #[.int .i64 k] 3) = W at *
  refine (look_ok (HH.out.up HB0.out) tab k w.heap.size 1 (by simp only [World.cell?, hc]; rfl) h2 h3).mono ?_
  rintro e w1 ⟨rfl, hb1⟩
  have HB1 := Lib.hid (up2 HB0.out hb1)
  clear hb1 hc HB0
  go_wp2_with fail
  have HB2 := below1 w1 (.cells #[.pointer (some ⟨b, 0, none⟩), .int .i64 lo, .int .i64 hi, .int .i64 tab] 71)
  generalize w1.alloc (.cells #[.pointer (some ⟨b, 0, none⟩), .int .i64 lo, .int .i64 hi, .int .i64 tab] 71) = W1 at *
  refine (vcolumn ((HH.out.up HB1.out).up HB2) tab k ht1 ht2 h2 h3).mono ?_
  rintro e w2 ⟨rfl, hb2⟩
  have HB3 := Lib.hid (up2 HB1.out (up2 HB2 hb2))
  clear HB2 hb2
  go_wp2_with fail
  go_ret2
  exact ⟨rfl, HB3.out⟩
set_option maxHeartbeats 2000000 in
theorem seek_ok (h : BufR w b cs pt lo hi) (k tab col : Nat) (ht1 : 1 ≤ tab) (ht2 : tab ≤ 64) (h2 : lo ≤ k) (h3 : k ≤ hi) :
    Calls Tryz.prog 15 #[.pointer (some ⟨b, 0, none⟩), .int .i64 k, .int .i64 col, .int .i64 tab] w fun e w' => e = .returned (.tuple #[.int .i64 (seekN widN cs tab (lineB cs lo k) (lineE cs hi k) col : Nat), .int .i64 (colN widN cs tab (lineB cs lo k) (seekN widN cs tab (lineB cs lo k) (lineE cs hi k) col) : Nat), .int .i64 0]) ∧ Below w.heap.size w w' := by
  have hl := h.len
  have HH := Lib.hid h
  clear h
  have d9 : decide ((0 : Int) ≤ (col : Int)) = true := decide_eq_true (by omega)
  go_enter Tryz.func15, Tryz.ntmps15
  go_wp2_with fail
  refine (tabbed_ok tab ht1 ht2 w).mono ?_
  rintro e w1 ⟨rfl, rfl⟩
  go_wp2_with fail
  have HB0 := Lib.hid (below1 w (.cells #[.int .i64 k] 3))
  have hc := (MapKept.heap_alloc w (.cells #[.int .i64 k] 3)).1
  generalize w.alloc (.cells #[.int .i64 k] 3) = W at *
  refine (look_ok (HH.out.up HB0.out) tab k w.heap.size 1 (by simp only [World.cell?, hc]; rfl) h2 h3).mono ?_
  rintro e w1 ⟨rfl, hb1⟩
  have HB1 := Lib.hid (up2 HB0.out hb1)
  clear hb1 hc HB0
  go_wp2_with fail
  have HB2 := below1 w1 (.cells #[.pointer (some ⟨b, 0, none⟩), .int .i64 lo, .int .i64 hi, .int .i64 tab] 71)
  generalize w1.alloc (.cells #[.pointer (some ⟨b, 0, none⟩), .int .i64 lo, .int .i64 hi, .int .i64 tab] 71) = W1 at *
  refine (vseek ((HH.out.up HB1.out).up HB2) tab k col ht1 ht2 h2 h3).mono ?_
  rintro e w2 ⟨rfl, hb2⟩
  have HB3 := Lib.hid (up2 HB1.out (up2 HB2 hb2))
  clear HB2 hb2
  go_wp2_with fail
  refine bodyPost_ret (v := .tuple #[.int .i64 (seekN widN cs tab (lineB cs lo k) (lineE cs hi k) col : Nat), .int .i64 (colN widN cs tab (lineB cs lo k) (seekN widN cs tab (lineB cs lo k) (lineE cs hi k) col) : Nat), .int .i64 0]) (by simp [results, Tryz.f15, go_sem]) rfl ⟨rfl, HB3.out⟩
set_option maxHeartbeats 2000000 in
theorem lines_fwd (h : BufR w b cs pt lo hi) (k n : Nat) (hn : n ≤ 1000000) (h2 : lo ≤ k) (h3 : k ≤ hi) :
    Calls Tryz.prog 7 #[.pointer (some ⟨b, 0, none⟩), .int .i64 k, .int .i64 n] w fun e w' => e = .returned (.tuple #[.int .i64 (linesF cs lo hi n k).1, .int .i64 (linesF cs lo hi n k).2, .int .i64 0]) ∧ Below w.heap.size w w' := by
  have hl := h.len
  have HH := Lib.hid h
  clear h
  go_enter Tryz.func7, Tryz.ntmps7
  go_wp2_with fail
  have HB0 := Lib.hid (below1 w (.cells #[.int .i64 k] 3))
  have hc := (MapKept.heap_alloc w (.cells #[.int .i64 k] 3)).1
  generalize w.alloc (.cells #[.int .i64 k] 3) = W at *
  refine (look_ok (HH.out.up HB0.out) 0 k w.heap.size 1 (by simp only [World.cell?, hc]; rfl) h2 h3).mono ?_
  rintro e w1 ⟨rfl, hb1⟩
  have HB1 := Lib.hid (up2 HB0.out hb1)
  clear hb1 hc HB0
  go_wp2_with fail
  have HB2 := below1 w1 (.cells #[.pointer (some ⟨b, 0, none⟩), .int .i64 lo, .int .i64 hi, .int .i64 0] 71)
  generalize w1.alloc (.cells #[.pointer (some ⟨b, 0, none⟩), .int .i64 lo, .int .i64 hi, .int .i64 0] 71) = W1 at *
  refine (vlines_fwd ((HH.out.up HB1.out).up HB2) 0 k n hn h2 h3).mono ?_
  rintro e w2 ⟨rfl, hb2⟩
  have HB3 := Lib.hid (up2 HB1.out (up2 HB2 hb2))
  clear HB2 hb2
  go_wp2_with fail
  refine bodyPost_ret (v := .tuple #[.int .i64 (linesF cs lo hi n k).1, .int .i64 (linesF cs lo hi n k).2, .int .i64 0]) (by simp [results, Tryz.f7, go_sem]) rfl ⟨rfl, HB3.out⟩
set_option maxHeartbeats 2000000 in
theorem lines_back (h : BufR w b cs pt lo hi) (k n : Nat) (hn : n ≤ 1000000) (hn1 : 1 ≤ n) (h2 : lo ≤ k) (h3 : k ≤ hi) :
    Calls Tryz.prog 7 #[.pointer (some ⟨b, 0, none⟩), .int .i64 k, .int .i64 (-(n : Int))] w fun e w' => e = .returned (.tuple #[.int .i64 (bwdN cs lo n (lineB cs lo k)).1, .int .i64 (bwdN cs lo n (lineB cs lo k)).2, .int .i64 0]) ∧ Below w.heap.size w w' := by
  have hl := h.len
  have HH := Lib.hid h
  clear h
  go_enter Tryz.func7, Tryz.ntmps7
  go_wp2_with fail
  have HB0 := Lib.hid (below1 w (.cells #[.int .i64 k] 3))
  have hc := (MapKept.heap_alloc w (.cells #[.int .i64 k] 3)).1
  generalize w.alloc (.cells #[.int .i64 k] 3) = W at *
  refine (look_ok (HH.out.up HB0.out) 0 k w.heap.size 1 (by simp only [World.cell?, hc]; rfl) h2 h3).mono ?_
  rintro e w1 ⟨rfl, hb1⟩
  have HB1 := Lib.hid (up2 HB0.out hb1)
  clear hb1 hc HB0
  go_wp2_with fail
  have HB2 := below1 w1 (.cells #[.pointer (some ⟨b, 0, none⟩), .int .i64 lo, .int .i64 hi, .int .i64 0] 71)
  generalize w1.alloc (.cells #[.pointer (some ⟨b, 0, none⟩), .int .i64 lo, .int .i64 hi, .int .i64 0] 71) = W1 at *
  refine (vlines_back ((HH.out.up HB1.out).up HB2) 0 k n hn hn1 h2 h3).mono ?_
  rintro e w2 ⟨rfl, hb2⟩
  have HB3 := Lib.hid (up2 HB1.out (up2 HB2 hb2))
  clear HB2 hb2
  go_wp2_with fail
  refine bodyPost_ret (v := .tuple #[.int .i64 (bwdN cs lo n (lineB cs lo k)).1, .int .i64 (bwdN cs lo n (lineB cs lo k)).2, .int .i64 0]) (by simp [results, Tryz.f7, go_sem]) rfl ⟨rfl, HB3.out⟩
end
end Go.Proofs.YtcfdalmllegefaaGreatDoor
/- package column: indent, Indent. -/
namespace Go.Proofs.YtcfdalmllegefaaGreatDoor
open Go.RowKit
set_option linter.unusedVariables false
set_option linter.unusedSimpArgs false
/-- The first character from i on, within n, that is no blank. -/
def indF (cs : List Nat) : Nat → Nat → Nat
  | 0, i => i
  | n + 1, i => if chr cs i = 32 ∨ chr cs i = 9 then indF cs n (i + 1) else i
def indN (cs : List Nat) (b e : Nat) : Nat := indF cs (e - b) b
theorem indF_is (cs : List Nat) : ∀ n i, i ≤ indF cs n i ∧ indF cs n i ≤ i + n ∧ (∀ j, i ≤ j → j < indF cs n i → chr cs j = 32 ∨ chr cs j = 9) ∧ (indF cs n i = i + n ∨ ¬ (chr cs (indF cs n i) = 32 ∨ chr cs (indF cs n i) = 9))
  | 0, i => ⟨Nat.le_refl _, Nat.le_refl _, fun j h1 h2 => by unfold indF at h2; omega, .inl rfl⟩
  | n + 1, i => by
    unfold indF
    split
    · rename_i h
      obtain ⟨a1, a2, a3, a4⟩ := indF_is cs n (i + 1)
      refine ⟨by omega, by omega, fun j h1 h2 => ?_, ?_⟩
      · by_cases e : j = i
        · subst e; exact h
        · exact a3 j (by omega) h2
      · exact a4.elim (fun e => .inl (by omega)) .inr
    · rename_i h
      exact ⟨Nat.le_refl _, by omega, fun j h1 h2 => by omega, .inr h⟩
theorem indN_is (cs : List Nat) {b e : Nat} (h : b ≤ e) : b ≤ indN cs b e ∧ indN cs b e ≤ e ∧ (∀ j, b ≤ j → j < indN cs b e → chr cs j = 32 ∨ chr cs j = 9) ∧ (indN cs b e = e ∨ ¬ (chr cs (indN cs b e) = 32 ∨ chr cs (indN cs b e) = 9)) := by
  obtain ⟨a1, a2, a3, a4⟩ := indF_is cs (e - b) b
  unfold indN
  exact ⟨a1, by omega, a3, a4.elim (fun q => .inl (by omega)) .inr⟩
theorem indN_eq (cs : List Nat) {b e i : Nat} (h1 : b ≤ i) (h2 : i ≤ e) (h3 : ∀ j, b ≤ j → j < i → chr cs j = 32 ∨ chr cs j = 9) (h4 : i = e ∨ ¬ (chr cs i = 32 ∨ chr cs i = 9)) : indN cs b e = i := by
  obtain ⟨a1, a2, a3, a4⟩ := indN_is cs (b := b) (e := e) (by omega)
  rcases Nat.lt_trichotomy (indN cs b e) i with h | h | h
  · rcases a4 with a | a
    · omega
    · exact absurd (h3 _ a1 h) a
  · exact h
  · rcases h4 with a | a
    · omega
    · exact absurd (a3 i h1 h) a
section
variable {w w' : World} {b pt lo hi tab : Nat} {cs : List Nat}
theorem blank_ok (c : Nat) (w : World) : Calls Tryz.prog 65 #[.int .i64 c] w fun e w' => e = .returned (.bool (decide (c = 32 ∨ c = 9))) ∧ w = w' := by
  by_cases h : c = 32
  · subst h
    go_enter Tryz.func65, Tryz.ntmps65
    go_wp2_with fail
    go_ret
    exact ⟨rfl, rfl⟩
  · have d1 : ((c : Int) == (32 : Int)) = false := by rw [beq_eq_false_iff_ne]; omega
    have d2 : ((c : Int) = (32 : Int)) = False := eq_false (by omega)
    have e : decide (c = 32 ∨ c = 9) = ((c : Int) == (9 : Int)) := by
      by_cases h9 : c = 9
      · subst h9; rfl
      · rw [show ((c : Int) == (9 : Int)) = false by rw [beq_eq_false_iff_ne]; omega]; simp [h, h9]
    rw [e]
    clear e h
    go_enter Tryz.func65, Tryz.ntmps65
    go_wp2_with fail
    go_ret
    exact ⟨rfl, rfl⟩
set_option maxRecDepth 100000 in
set_option maxHeartbeats 2000000 in
theorem vindent (h : BufR w b cs pt lo hi) (tab k : Nat) (h2 : lo ≤ k) (h3 : k ≤ hi) :
    Calls Tryz.prog 56 #[vwV b lo hi tab, .int .i64 k] w fun e w' => e = .returned (.int .i64 (indN cs (lineB cs lo k) (lineE cs hi k) : Nat)) ∧ Below w.heap.size w w' := by
  have hl := h.len
  have HH := Lib.hid h
  have hB2 : lineB cs lo k ≤ k := lineB_le k h2
  have hB1 : lo ≤ lineB cs lo k := lineB_ge k
  have hE1 : k ≤ lineE cs hi k := lineE_ge k
  have hE2 : lineE cs hi k ≤ hi := lineE_le k h3
  have hq := indN_is cs (b := lineB cs lo k) (e := lineE cs hi k) (by omega)
  obtain ⟨R, hR⟩ : ∃ R, R = indN cs (lineB cs lo k) (lineE cs hi k) := ⟨_, rfl⟩
  rw [← hR] at hq ⊢
  have HQ := Lib.hid hq
  have HB0 := below1 w (.cells #[.pointer (some ⟨b, 0, none⟩), .int .i64 lo, .int .i64 hi, .int .i64 tab] 71)
  have hv := VwI.made w b lo hi tab (T := 71)
  have HV := Lib.hid hv
  have B0 := Lib.hid HB0
  clear h hq hv HB0 hR
  go_enter Tryz.func56, Tryz.ntmps56
  go_wp2_with fail
  generalize w.alloc (.cells #[.pointer (some ⟨b, 0, none⟩), .int .i64 lo, .int .i64 hi, .int .i64 tab] 71) = W at *
  have X0 : ∀ X : UpW W.heap.size W, X.w.cell? ⟨w.heap.size, 0, none⟩ = some (.pointer (some ⟨b, 0, none⟩)) := fun X => (HV.out.up X.up).c0
  have X1 : ∀ X : UpW W.heap.size W, X.w.cell? ⟨w.heap.size, 1, none⟩ = some (.int .i64 lo) := fun X => (HV.out.up X.up).c1
  have X2 : ∀ X : UpW W.heap.size W, X.w.cell? ⟨w.heap.size, 2, none⟩ = some (.int .i64 hi) := fun X => (HV.out.up X.up).c2
  have X3 : ∀ X : UpW W.heap.size W, X.w.cell? ⟨w.heap.size, 3, none⟩ = some (.int .i64 tab) := fun X => (HV.out.up X.up).c3
  refine wp_region_up W.heap.size (by kernel_rfl) (by kernel_rfl) ?_
  repeat (go_big_quiet_step (first | exact Calls.up ‹_› (Nat.le_refl _) (vbegin ((HH.out.up B0.out).up (UpW.up ‹_›)) tab k hl.2.1 h2 h3) | exact Calls.up ‹_› (Nat.le_refl _) (vend ((HH.out.up B0.out).up (UpW.up ‹_›)) tab k (by omega) h3)))
  refine wpQuiet_nil ?_
  rintro ⟨w1, hb1⟩
  dsimp only
  have HV1 := Lib.hid (HV.out.up hb1)
  have B1 := Lib.hid (up2 B0.out hb1)
  clear X0 X1 X2 X3 hb1 HV B0
  generalize lineB cs lo k = LB at *
  generalize lineE cs hi k = LE at *
  go_wp2_with fail
  go_loopw [5, 7, 8] (fun va _ _ wr => ∃ i : Nat, LB ≤ i ∧ i ≤ R ∧ va = .int .i64 i ∧ Below w1.heap.size w1 wr) (fun va _ _ _ => LE + 1 - (intOf va).toNat)
  case atStart => exact ⟨LB, Nat.le_refl _, HQ.out.1, rfl, Below.refl _ _⟩
  case round =>
    obtain ⟨i, i1, i2, rfl, hb⟩ := hrel
    have HBr := Lib.hid hb
    have v0 := (HV1.out.up hb).c0
    clear hb
    have hRE := HQ.out.2.1
    by_cases hlt : i < LE
    · have d1 : decide ((i : Int) < (LE : Int)) = true := decide_eq_true (by omega)
      have d2 : ((i : Int) < (LE : Int)) = True := eq_true (by omega)
      have s1 : IntKind.i64.wrap ((i : Int) + 1) = ((i + 1 : Nat) : Int) := by rw [IntWalk.i64_in _ (by omega)]; omega
      have HCH := Lib.hid (bchar ((HH.out.up B1.out).up HBr.out) i (by omega) (by omega))
      obtain ⟨c, hc⟩ : ∃ c, c = chr cs i := ⟨_, rfl⟩
      rw [← hc] at HCH
      have HCc := Lib.hid hc
      clear hc
      go_wp2_with fail
      refine HCH.out.mono ?_
      rintro e w2 ⟨rfl, hb2⟩
      have B2 := Lib.hid (up2 HBr.out hb2)
      clear hb2 HCH v0
      have HBK := Lib.hid (blank_ok c w2)
      by_cases hbl : c = 32 ∨ c = 9
      · have hir : i < R := by
          rcases Nat.lt_or_ge i R with q | q
          · exact q
          · have e : i = R := by omega
            rcases HQ.out.2.2.2 with a | a
            · omega
            · rw [← e, ← HCc.out] at a; exact absurd hbl a
        rw [decide_eq_true hbl] at HBK
        clear hbl
        go_wp2_with fail
        refine HBK.out.mono ?_
        rintro e w3 ⟨rfl, rfl⟩
        go_wp2_with fail
        go_roundw
        case rel => exact ⟨i + 1, by omega, by omega, by first | rfl | go_num, B2.out⟩
        case measure => simp [intOf]; omega
      · have hir : i = R := by
          rcases Nat.lt_or_ge i R with q | q
          · exact absurd (by have := HQ.out.2.2.1 i i1 q; rwa [← HCc.out] at this) hbl
          · omega
        rw [decide_eq_false hbl] at HBK
        clear hbl
        go_wp2_with fail
        refine HBK.out.mono ?_
        rintro e w3 ⟨rfl, rfl⟩
        go_wp2_with fail
        go_ret
        exact ⟨by first | rfl | (rw [hir]; rfl), up2 B1.out B2.out⟩
    · have hir : i = R := by omega
      have d1 : decide ((i : Int) < (LE : Int)) = false := decide_eq_false (by omega)
      have d2 : ((i : Int) < (LE : Int)) = False := eq_false (by omega)
      go_wp2_with fail
      go_ret
      exact ⟨by first | rfl | (rw [hir]; rfl), up2 B1.out HBr.out⟩
set_option maxHeartbeats 2000000 in
theorem Indent_ok (h : BufR w b cs pt lo hi) (k tab : Nat) (ht1 : 1 ≤ tab) (ht2 : tab ≤ 64) (h2 : lo ≤ k) (h3 : k ≤ hi) :
    Calls Tryz.prog 11 #[.pointer (some ⟨b, 0, none⟩), .int .i64 k, .int .i64 tab] w fun e w' => e = .returned (.tuple #[.int .i64 (indN cs (lineB cs lo k) (lineE cs hi k) : Nat), .int .i64 (colN widN cs tab (lineB cs lo (indN cs (lineB cs lo k) (lineE cs hi k))) (indN cs (lineB cs lo k) (lineE cs hi k)) : Nat), .int .i64 0]) ∧ Below w.heap.size w w' := by
  have hl := h.len
  have HH := Lib.hid h
  have hB2 : lineB cs lo k ≤ k := lineB_le k h2
  have hB1 : lo ≤ lineB cs lo k := lineB_ge k
  have hE1 : k ≤ lineE cs hi k := lineE_ge k
  have hE2 : lineE cs hi k ≤ hi := lineE_le k h3
  have hq := indN_is cs (b := lineB cs lo k) (e := lineE cs hi k) (by omega)
  clear h
  obtain ⟨R, hR⟩ : ∃ R, R = indN cs (lineB cs lo k) (lineE cs hi k) := ⟨_, rfl⟩
  rw [← hR] at hq ⊢
  have HR := Lib.hid hR
  have HQ := Lib.hid (show lo ≤ R ∧ R ≤ hi by omega)
  clear hR hq hB1 hB2 hE1 hE2
  go_enter Tryz.func11, Tryz.ntmps11
  go_wp2_with fail
  refine (tabbed_ok tab ht1 ht2 w).mono ?_
  rintro e w1 ⟨rfl, rfl⟩
  go_wp2_with fail
  have HB0 := Lib.hid (below1 w (.cells #[.int .i64 k] 3))
  have hc := (MapKept.heap_alloc w (.cells #[.int .i64 k] 3)).1
  generalize w.alloc (.cells #[.int .i64 k] 3) = W at *
  refine (look_ok (HH.out.up HB0.out) tab k w.heap.size 1 (by simp only [World.cell?, hc]; rfl) h2 h3).mono ?_
  rintro e w1 ⟨rfl, hb1⟩
  have HB1 := Lib.hid (up2 HB0.out hb1)
  clear hb1 hc HB0
  go_wp2_with fail
  have HB2 := below1 w1 (.cells #[.pointer (some ⟨b, 0, none⟩), .int .i64 lo, .int .i64 hi, .int .i64 tab] 71)
  have hv := VwI.made w1 b lo hi tab (T := 71)
  generalize w1.alloc (.cells #[.pointer (some ⟨b, 0, none⟩), .int .i64 lo, .int .i64 hi, .int .i64 tab] 71) = W1 at *
  have hvi := vindent ((HH.out.up HB1.out).up HB2) tab k h2 h3
  rw [← HR.out] at hvi
  refine hvi.mono ?_
  rintro e w2 ⟨rfl, hb2⟩
  have HV2 := hv.up hb2
  have v0 := HV2.c0
  have v1 := HV2.c1
  have v2 := HV2.c2
  have v3 := HV2.c3
  have HB3 := Lib.hid (up2 HB1.out (up2 HB2 hb2))
  have HC := Lib.hid (vcolumn (HH.out.up HB3.out) tab R ht1 ht2 HQ.out.1 HQ.out.2)
  clear HB2 hb2 hvi hv HV2
  go_wp2_with fail
  refine HC.out.mono ?_
  rintro e w3 ⟨rfl, hb3⟩
  go_wp2_with fail
  exact bodyPost_ret (v := .tuple #[.int .i64 (R : Int), .int .i64 (colN widN cs tab (lineB cs lo R) R : Nat), .int .i64 0]) (by simp [results, Tryz.f11, go_sem]) rfl ⟨rfl, up2 HB3.out hb3⟩
end
end Go.Proofs.YtcfdalmllegefaaGreatDoor
/- package gap: move and grow, any text. -/
namespace Go.Proofs.YtcfdalmllegefaaGreatDoor
open Go.RowKit Go.Lib
set_option linter.unusedVariables false
set_option linter.unusedSimpArgs false
section
variable {P : Program} {w : World}
/-- A list with values laid over it from o on. -/
def stL (cur : List Value) : Nat → List Value → List Value
  | _, [] => cur
  | o, v :: r => stL (cur.set o v) (o + 1) r
theorem stL_eq : ∀ (vs cur : List Value) (o : Nat), o + vs.length ≤ cur.length → stL cur o vs = cur.take o ++ vs ++ cur.drop (o + vs.length)
  | [], cur, o, h => by simp [stL]
  | v :: r, cur, o, h => by
    simp only [List.length_cons] at h
    rw [stL, stL_eq r (cur.set o v) (o + 1) (by simp; omega)]
    have h1 : (cur.set o v).take (o + 1) = cur.take o ++ [v] := by
      rw [List.take_succ_eq_append_getElem (by simp; omega), List.take_set_of_le (Nat.le_refl _)]; simp
    have h2 : (cur.set o v).drop (o + 1 + r.length) = cur.drop (o + 1 + r.length) := List.drop_set_of_lt (by omega)
    rw [h1, h2, List.length_cons, show o + (r.length + 1) = o + 1 + r.length by omega]
    simp
theorem stL_length : ∀ (vs cur : List Value) (o : Nat), (stL cur o vs).length = cur.length
  | [], cur, o => rfl
  | v :: r, cur, o => by rw [stL, stL_length r]; simp
theorem heap_setCells {g : Nat} {E : TypeId} : ∀ (vs : List Value) (o : Nat) (w : World) (cur : List Value), w.heap[g]? = some (.cells cur.toArray E (0, 0)) → (w.setCells g o vs).heap[g]? = some (.cells (stL cur o vs).toArray E (0, 0))
  | [], o, w, cur, h => h
  | v :: r, o, w, cur, h => by
    rw [World.setCells, stL]
    refine heap_setCells r (o + 1) _ _ ?_
    have := heap_setCell_same w g o _ _ v h
    simpa using this
theorem only_setCells {g : Nat} : ∀ (vs : List Value) (o : Nat) (w : World), Only (· = g) w (w.setCells g o vs)
  | [], o, w => Only.refl _ _
  | v :: r, o, w => ((Only.refl (· = g) w).setCell (p := ⟨g, o, none⟩) rfl v).trans (only_setCells r (o + 1) _)
theorem size_setCells {g : Nat} : ∀ (vs : List Value) (o : Nat) (w : World), (w.setCells g o vs).heap.size = w.heap.size
  | [], o, w => rfl
  | v :: r, o, w => by rw [World.setCells, size_setCells r (o + 1)]; simp
end
abbrev encR (z : Int) : Value := .int .i32 z
abbrev rowR (B : List Int) : Array Value := (B.map encR).toArray
theorem infoR : (Tryz.prog.info? 21).map (·.size) = some 1 := by kernel_rfl
/-- B with the part S[p:p+n] laid over it from o on. -/
def laidOver (B : List Int) (o : Nat) (S : List Int) (p n : Nat) : List Int := B.take o ++ (S.drop p).take n ++ B.drop (o + n)
theorem laidOver_len {B S : List Int} {o p n : Nat} (ho : o + n ≤ B.length) (hp : p + n ≤ S.length) : (laidOver B o S p n).length = B.length := by
  unfold laidOver
  simp only [List.length_append, List.length_take, List.length_drop]; omega
theorem laidOver_zero (B S : List Int) (o p : Nat) : laidOver B o S p 0 = B := by simp [laidOver]
theorem copy_over {w : World} {gd gs o p n dl dc sl sc : Nat} {D S : List Int} (hD : Blk w gd 21 (rowR D)) (hS : Blk w gs 21 (rowR S)) (ho : o + n ≤ D.length) (hp : p + n ≤ S.length) (hn : Nat.min sl dl = n) :
    ∃ w', (∀ ty ad az, (0 < n → ad = some ⟨gd, o, none⟩ ∧ az = some ⟨gs, p, none⟩) → (Builtin.copy_ #[190, 190] ty #[.slice ad dl dc, .slice az sl sc]).run Tryz.prog w = .ok (goInt n) w') ∧
      Only (· = gd) w w' ∧ Blk w' gd 21 (rowR (laidOver D o S p n)) ∧ w'.heap.size = w.heap.size := by
  rcases Nat.eq_zero_or_pos n with h0 | h0
  · subst h0
    refine ⟨w, fun ty ad az _ => ?_, Only.refl _ _, by rw [laidOver_zero]; exact hD, rfl⟩
    have := run_copy_none (P := Tryz.prog) w 190 190 ty 21 ad az dl dc sl sc Tryz.underlying190 infoR hn
    simpa using this
  · have hl : (((S.drop p).take n).map encR).length = n := by simp; omega
    refine ⟨w.setCells gd o (((S.drop p).take n).map encR), fun ty ad az h => ?_, only_setCells _ _ _, ?_, size_setCells _ _ _⟩
    · obtain ⟨rfl, rfl⟩ := h h0
      have := run_copy_cells (P := Tryz.prog) w 190 190 ty 21 gd o dl dc ⟨gs, p, none⟩ sl sc (((S.drop p).take n).map encR) Tryz.underlying190 infoR (by rw [hl, hn])
        (fun j v hj => by
          have hj2 : j < n := by have := List.getElem?_eq_some_iff.1 hj; obtain ⟨h1, _⟩ := this; omega
          rw [Addr.add_lit]
          refine hS.cell ?_
          rw [List.getElem?_map] at hj
          rw [List.getElem?_take_of_lt hj2, List.getElem?_drop] at hj
          simpa using hj)
        (fun j hj => by
          have : o + j < D.length := by rw [hl] at hj; omega
          rw [hD.cell (j := o + j) (v := encR D[o + j]) (by simp [this])]; rfl)
        (fun j hj => hD.fz _) (fun v hv => by obtain ⟨z, _, rfl⟩ := List.mem_map.1 hv; rfl)
      rw [hl] at this
      exact this
    · have := heap_setCells (((S.drop p).take n).map encR) o w (D.map encR) hD
      rw [stL_eq _ _ _ (by rw [hl]; simp; omega), hl] at this
      unfold Blk
      rw [this]
      unfold laidOver
      simp
section
variable {w w' : World} {t g : Nat}
/-- The text object at its whole memory. -/
structure GapW (w : World) (t g : Nat) (B : List Int) (st en : Nat) (fv : Value) : Prop where
  blk : Blk w t 192 (txtC g B.length B.length st en fv)
  buf : Blk w g 21 (rowR B)
  tg : t ≠ g
  lim : B.length ≤ 200000
  h1 : st ≤ en
  h2 : en ≤ B.length
theorem GapW.up {B : List Int} {st en : Nat} {fv : Value} (h : GapW w t g B st en fv) (hb : Below w.heap.size w w') : GapW w' t g B st en fv := ⟨h.blk.up hb, h.buf.up hb, h.tg, h.lim, h.h1, h.h2⟩
theorem GapW.only {S : Nat → Prop} {B : List Int} {st en : Nat} {fv : Value} (h : GapW w t g B st en fv) (ho : Only S w w') (h1 : ¬ S t) (h2 : ¬ S g) : GapW w' t g B st en fv := ⟨h.blk.only ho h1, h.buf.only ho h2, h.tg, h.lim, h.h1, h.h2⟩
theorem over_lo {B : List Int} {st en i : Nat} (h1 : st ≤ en) (h2 : en ≤ B.length) (hi : i ≤ st) :
    (laidOver B (i + (en - st)) B i (st - i)).take i ++ (laidOver B (i + (en - st)) B i (st - i)).drop (i + (en - st)) = B.take st ++ B.drop en := by
  unfold laidOver
  have e1 : (B.take (i + (en - st))).length = i + (en - st) := by simp; omega
  rw [List.append_assoc, List.take_append_of_le_length (by omega), List.take_take, Nat.min_eq_left (by omega)]
  rw [List.drop_append_of_le_length (by omega), show i + (en - st) + (st - i) = en by omega]
  rw [List.drop_eq_nil_of_le (by omega), List.nil_append, ← List.append_assoc]
  congr 1
  have := (List.take_append_drop i (B.take st))
  rw [List.take_take, Nat.min_eq_left hi, List.drop_take] at this
  exact this
theorem over_hi {B : List Int} {st en i : Nat} (h1 : st ≤ en) (h2 : en ≤ B.length) (hi : st ≤ i) (h3 : i + (en - st) ≤ B.length) :
    (laidOver B st B en (i - st)).take i ++ (laidOver B st B en (i - st)).drop (i + (en - st)) = B.take st ++ B.drop en := by
  unfold laidOver
  have e1 : (B.take st).length = st := by simp; omega
  have e2 : ((B.drop en).take (i - st)).length = i - st := by simp; omega
  have e3 : (B.take st ++ (B.drop en).take (i - st)).length = i := by rw [List.length_append, e1, e2]; omega
  rw [List.take_append_of_le_length (by omega), List.take_of_length_le (by omega)]
  have e4 : List.drop (i + (en - st)) (B.take st ++ (B.drop en).take (i - st) ++ B.drop (st + (i - st))) = B.drop (i + (en - st)) := by
    rw [List.drop_append, List.drop_eq_nil_of_le (by omega), List.nil_append, e3, List.drop_drop]; congr 1; omega
  rw [e4, List.append_assoc]
  congr 1
  have := List.take_append_drop (i - st) (B.drop en)
  rw [List.drop_drop, show en + (i - st) = i + (en - st) by omega] at this
  exact this
set_option maxHeartbeats 2000000 in
theorem gmove_lo {B : List Int} {st en i : Nat} {fv : Value} (h : GapW w t g B st en fv) (hi : i < st) :
    Calls Tryz.prog 251 #[.pointer (some ⟨t, 0, none⟩), .int .i64 i] w fun e w' => e = .returned (.tuple #[]) ∧ Only (fun k => k = t ∨ k = g) w w' ∧ GapW w' t g (laidOver B (i + (en - st)) B i (st - i)) i (i + (en - st)) fv ∧ w'.heap.size = w.heap.size := by
  have c0 : w.cell? ⟨t, 0, none⟩ = some (.slice (some ⟨g, 0, none⟩) B.length B.length) := h.blk.cell (j := 0) rfl
  have c1 : w.cell? ⟨t, 1, none⟩ = some (.int .i64 st) := h.blk.cell (j := 1) rfl
  have c2 : w.cell? ⟨t, 2, none⟩ = some (.int .i64 en) := h.blk.cell (j := 2) rfl
  have f1 := h.blk.fz 1
  have f2 := h.blk.fz 2
  have q1 := h.h1
  have q2 := h.h2
  have q3 := h.lim
  obtain ⟨E, hE⟩ : ∃ E, E = i + (en - st) := ⟨_, rfl⟩
  rw [← hE]
  obtain ⟨G, hG⟩ : ∃ G, G = en - st := ⟨_, rfl⟩
  have s1 : IntKind.i64.wrap ((en : Int) - st) = (G : Int) := by rw [IntWalk.i64_in _ (by omega)]; omega
  have s2 : IntKind.i64.wrap ((i : Int) + (G : Int)) = (E : Int) := by rw [IntWalk.i64_in _ (by omega)]; omega
  have d1 : (i < st) = True := eq_true hi
  have e1 : E ≤ en := by omega
  have e2 : (B.length = E) = False := eq_false (by omega)
  have e3 : (B.length = i) = False := eq_false (by omega)
  obtain ⟨w1, hcp, ho1, hb1, hz1⟩ := copy_over (w := w.drew.drew) (gd := g) (gs := g) (o := E) (p := i) (n := st - i) (dl := en - E) (dc := B.length - E) (sl := st - i) (sc := B.length - i) h.buf h.buf (by omega) (by omega) (by show min (st - i) (en - E) = st - i; omega)
  have ht1 : Blk w1 t 192 _ := h.blk.kept (ho1.block t h.blk.lt h.tg)
  have k0 : w1.cell? ⟨t, 0, none⟩ = some (.slice (some ⟨g, 0, none⟩) B.length B.length) := ht1.cell (j := 0) rfl
  have k1 : w1.cell? ⟨t, 1, none⟩ = some (.int .i64 st) := ht1.cell (j := 1) rfl
  have k2 : w1.cell? ⟨t, 2, none⟩ = some (.int .i64 en) := ht1.cell (j := 2) rfl
  have f3 := ht1.fz 1
  have f4 := ht1.fz 2
  have HT1 := Lib.hid ht1
  have HB1 := Lib.hid hb1
  have HO1 := Lib.hid ho1
  have HZ1 := Lib.hid hz1
  have htg := h.tg
  have HTG := Lib.hid htg
  clear ht1 hb1 ho1 hz1 htg
  have hcp1 := fun ty => hcp ty (some ⟨g, E, none⟩) (some ⟨g, i, none⟩) (fun _ => ⟨rfl, rfl⟩)
  have e4 : st ≤ B.length := by omega
  have HE := Lib.hid (⟨hE, hG, q1, q2, q3, hi⟩ : _ ∧ _ ∧ _ ∧ _ ∧ _ ∧ _)
  have e5 : i ≤ st := by omega
  clear h hE hG q1 q3 hi hcp
  go_enter Tryz.func251, Tryz.ntmps251
  go_wp2_with fail
  go_region
  go_wp2_with fail
  go_region
  go_wp2_with fail
  go_end0
  have hfin := ((HT1.out.set (j := 1) (by simp) (.int .i64 i)).set (j := 2) (by simp) (.int .i64 E))
  have hon : Only (fun k => k = t ∨ k = g) w _ := (((((Only.refl (fun k => k = t ∨ k = g) w).drew.drew).trans (HO1.out.mono (T := fun k => k = t ∨ k = g) (fun k hk => .inr hk))).setCell (p := ⟨t, 1, none⟩) (.inl rfl) (.int .i64 i)).setCell (p := ⟨t, 2, none⟩) (.inl rfl) (.int .i64 E))
  obtain ⟨hE, hG, q1, q2, q3, hi⟩ := HE.out
  refine ⟨rfl, hon, ⟨?_, ?_, HTG.out, ?_, by omega, ?_⟩, ?_⟩
  · rw [laidOver_len (by omega) (by omega)]; exact hfin
  · refine Blk.kept HB1.out ?_
    rw [Below.heap_setCell _ _ _ _ (fun e => HTG.out e.symm), Below.heap_setCell _ _ _ _ (fun e => HTG.out e.symm)]
  · rw [laidOver_len (by omega) (by omega)]; exact q3
  · rw [laidOver_len (by omega) (by omega)]; omega
  · simp [HZ1.out]
set_option maxHeartbeats 2000000 in
theorem gmove_eq {B : List Int} {st en i : Nat} {fv : Value} (h : GapW w t g B st en fv) (hi : i = st) :
    Calls Tryz.prog 251 #[.pointer (some ⟨t, 0, none⟩), .int .i64 i] w fun e w' => e = .returned (.tuple #[]) ∧ Only (fun k => k = t ∨ k = g) w w' ∧ GapW w' t g (laidOver B st B en (i - st)) i (i + (en - st)) fv ∧ w'.heap.size = w.heap.size := by
  have c0 : w.cell? ⟨t, 0, none⟩ = some (.slice (some ⟨g, 0, none⟩) B.length B.length) := h.blk.cell (j := 0) rfl
  have c1 : w.cell? ⟨t, 1, none⟩ = some (.int .i64 st) := h.blk.cell (j := 1) rfl
  have c2 : w.cell? ⟨t, 2, none⟩ = some (.int .i64 en) := h.blk.cell (j := 2) rfl
  have f1 := h.blk.fz 1
  have f2 := h.blk.fz 2
  have q1 := h.h1
  have q2 := h.h2
  have q3 := h.lim
  obtain ⟨E, hE⟩ : ∃ E, E = i + (en - st) := ⟨_, rfl⟩
  rw [← hE]
  obtain ⟨G, hG⟩ : ∃ G, G = en - st := ⟨_, rfl⟩
  have s1 : IntKind.i64.wrap ((en : Int) - st) = (G : Int) := by rw [IntWalk.i64_in _ (by omega)]; omega
  have s2 : IntKind.i64.wrap ((i : Int) + (G : Int)) = (E : Int) := by rw [IntWalk.i64_in _ (by omega)]; omega
  have d1 : (i < st) = False := eq_false (by omega)
  have e1 : st ≤ i := by omega
  have e6 : i ≤ B.length := by omega
  have e7 : en ≤ E := by omega
  have e8 : E ≤ B.length := by omega
  obtain ⟨w1, hcp, ho1, hb1, hz1⟩ := copy_over (w := w.drew.drew) (gd := g) (gs := g) (o := st) (p := en) (n := i - st) (dl := i - st) (dc := B.length - st) (sl := E - en) (sc := B.length - en) h.buf h.buf (by omega) (by omega) (by show min (E - en) (i - st) = i - st; omega)
  have ht1 : Blk w1 t 192 _ := h.blk.kept (ho1.block t h.blk.lt h.tg)
  have k0 : w1.cell? ⟨t, 0, none⟩ = some (.slice (some ⟨g, 0, none⟩) B.length B.length) := ht1.cell (j := 0) rfl
  have k1 : w1.cell? ⟨t, 1, none⟩ = some (.int .i64 st) := ht1.cell (j := 1) rfl
  have k2 : w1.cell? ⟨t, 2, none⟩ = some (.int .i64 en) := ht1.cell (j := 2) rfl
  have f3 := ht1.fz 1
  have f4 := ht1.fz 2
  have HT1 := Lib.hid ht1
  have HB1 := Lib.hid hb1
  have HO1 := Lib.hid ho1
  have HZ1 := Lib.hid hz1
  have htg := h.tg
  have HTG := Lib.hid htg
  clear ht1 hb1 ho1 hz1 htg
  have hcp1 := fun ty ad az => hcp ty ad az (fun h0 => by omega)
  have e4 : st ≤ B.length := by omega
  have HE := Lib.hid (⟨hE, hG, q1, q2, q3, hi⟩ : _ ∧ _ ∧ _ ∧ _ ∧ _ ∧ _)
  
  clear h hE hG q1 q3 hi hcp
  obtain ⟨x1, hx1⟩ : ∃ x : Bool, (B.length = st) = (x = true) := ⟨decide (B.length = st), by simp⟩
  obtain ⟨x2, hx2⟩ : ∃ x : Bool, (B.length = en) = (x = true) := ⟨decide (B.length = en), by simp⟩
  cases x1 <;> cases x2
  all_goals
    simp only [Bool.false_eq_true, eq_self_iff_true] at hx1 hx2
    go_enter Tryz.func251, Tryz.ntmps251
    go_wp2_with fail
    go_region
    go_wp2_with fail
    go_region
    go_wp2_with fail
    go_end0
    have hfin := ((HT1.out.set (j := 1) (by simp) (.int .i64 i)).set (j := 2) (by simp) (.int .i64 E))
    have hon : Only (fun k => k = t ∨ k = g) w _ := (((((Only.refl (fun k => k = t ∨ k = g) w).drew.drew).trans (HO1.out.mono (T := fun k => k = t ∨ k = g) (fun k hk => .inr hk))).setCell (p := ⟨t, 1, none⟩) (.inl rfl) (.int .i64 i)).setCell (p := ⟨t, 2, none⟩) (.inl rfl) (.int .i64 E))
    obtain ⟨hE, hG, q1, q2, q3, hi⟩ := HE.out
    refine ⟨rfl, hon, ⟨?_, ?_, HTG.out, ?_, by omega, ?_⟩, ?_⟩
    · rw [laidOver_len (by omega) (by omega)]; exact hfin
    · refine Blk.kept HB1.out ?_
      rw [Below.heap_setCell _ _ _ _ (fun e => HTG.out e.symm), Below.heap_setCell _ _ _ _ (fun e => HTG.out e.symm)]
    · rw [laidOver_len (by omega) (by omega)]; exact q3
    · rw [laidOver_len (by omega) (by omega)]; omega
    · simp [HZ1.out]
set_option maxHeartbeats 2000000 in
theorem gmove_hi {B : List Int} {st en i : Nat} {fv : Value} (h : GapW w t g B st en fv) (hi : st < i ∧ i + (en - st) ≤ B.length) :
    Calls Tryz.prog 251 #[.pointer (some ⟨t, 0, none⟩), .int .i64 i] w fun e w' => e = .returned (.tuple #[]) ∧ Only (fun k => k = t ∨ k = g) w w' ∧ GapW w' t g (laidOver B st B en (i - st)) i (i + (en - st)) fv ∧ w'.heap.size = w.heap.size := by
  have c0 : w.cell? ⟨t, 0, none⟩ = some (.slice (some ⟨g, 0, none⟩) B.length B.length) := h.blk.cell (j := 0) rfl
  have c1 : w.cell? ⟨t, 1, none⟩ = some (.int .i64 st) := h.blk.cell (j := 1) rfl
  have c2 : w.cell? ⟨t, 2, none⟩ = some (.int .i64 en) := h.blk.cell (j := 2) rfl
  have f1 := h.blk.fz 1
  have f2 := h.blk.fz 2
  have q1 := h.h1
  have q2 := h.h2
  have q3 := h.lim
  obtain ⟨E, hE⟩ : ∃ E, E = i + (en - st) := ⟨_, rfl⟩
  rw [← hE]
  obtain ⟨G, hG⟩ : ∃ G, G = en - st := ⟨_, rfl⟩
  have s1 : IntKind.i64.wrap ((en : Int) - st) = (G : Int) := by rw [IntWalk.i64_in _ (by omega)]; omega
  have s2 : IntKind.i64.wrap ((i : Int) + (G : Int)) = (E : Int) := by rw [IntWalk.i64_in _ (by omega)]; omega
  have d1 : (i < st) = False := eq_false (by omega)
  have e1 : st ≤ i := by omega
  have e2 : (B.length = en) = False := eq_false (by omega)
  have e3 : (B.length = st) = False := eq_false (by omega)
  have e6 : i ≤ B.length := by omega
  have e7 : en ≤ E := by omega
  have e8 : E ≤ B.length := by omega
  obtain ⟨w1, hcp, ho1, hb1, hz1⟩ := copy_over (w := w.drew.drew) (gd := g) (gs := g) (o := st) (p := en) (n := i - st) (dl := i - st) (dc := B.length - st) (sl := E - en) (sc := B.length - en) h.buf h.buf (by omega) (by omega) (by show min (E - en) (i - st) = i - st; omega)
  have ht1 : Blk w1 t 192 _ := h.blk.kept (ho1.block t h.blk.lt h.tg)
  have k0 : w1.cell? ⟨t, 0, none⟩ = some (.slice (some ⟨g, 0, none⟩) B.length B.length) := ht1.cell (j := 0) rfl
  have k1 : w1.cell? ⟨t, 1, none⟩ = some (.int .i64 st) := ht1.cell (j := 1) rfl
  have k2 : w1.cell? ⟨t, 2, none⟩ = some (.int .i64 en) := ht1.cell (j := 2) rfl
  have f3 := ht1.fz 1
  have f4 := ht1.fz 2
  have HT1 := Lib.hid ht1
  have HB1 := Lib.hid hb1
  have HO1 := Lib.hid ho1
  have HZ1 := Lib.hid hz1
  have htg := h.tg
  have HTG := Lib.hid htg
  clear ht1 hb1 ho1 hz1 htg
  have hcp1 := fun ty => hcp ty (some ⟨g, st, none⟩) (some ⟨g, en, none⟩) (fun _ => ⟨rfl, rfl⟩)
  have e4 : st ≤ B.length := by omega
  have HE := Lib.hid (⟨hE, hG, q1, q2, q3, hi⟩ : _ ∧ _ ∧ _ ∧ _ ∧ _ ∧ _)

  clear h hE hG q1 q3 hi hcp
  go_enter Tryz.func251, Tryz.ntmps251
  go_wp2_with fail
  go_region
  go_wp2_with fail
  go_region
  go_wp2_with fail
  go_end0
  have hfin := ((HT1.out.set (j := 1) (by simp) (.int .i64 i)).set (j := 2) (by simp) (.int .i64 E))
  have hon : Only (fun k => k = t ∨ k = g) w _ := (((((Only.refl (fun k => k = t ∨ k = g) w).drew.drew).trans (HO1.out.mono (T := fun k => k = t ∨ k = g) (fun k hk => .inr hk))).setCell (p := ⟨t, 1, none⟩) (.inl rfl) (.int .i64 i)).setCell (p := ⟨t, 2, none⟩) (.inl rfl) (.int .i64 E))
  obtain ⟨hE, hG, q1, q2, q3, hi⟩ := HE.out
  refine ⟨rfl, hon, ⟨?_, ?_, HTG.out, ?_, by omega, ?_⟩, ?_⟩
  · rw [laidOver_len (by omega) (by omega)]; exact hfin
  · refine Blk.kept HB1.out ?_
    rw [Below.heap_setCell _ _ _ _ (fun e => HTG.out e.symm), Below.heap_setCell _ _ _ _ (fun e => HTG.out e.symm)]
  · rw [laidOver_len (by omega) (by omega)]; exact q3
  · rw [laidOver_len (by omega) (by omega)]; omega
  · simp [HZ1.out]
theorem gmove_ok {B : List Int} {st en i : Nat} {fv : Value} (h : GapW w t g B st en fv) (hi : i + (en - st) ≤ B.length) :
    Calls Tryz.prog 251 #[.pointer (some ⟨t, 0, none⟩), .int .i64 i] w fun e w' => e = .returned (.tuple #[]) ∧ Only (fun k => k = t ∨ k = g) w w' ∧ w'.heap.size = w.heap.size ∧
      ∃ B', GapW w' t g B' i (i + (en - st)) fv ∧ B'.length = B.length ∧ B'.take i ++ B'.drop (i + (en - st)) = B.take st ++ B.drop en := by
  have q1 := h.h1
  have q2 := h.h2
  rcases Nat.lt_trichotomy i st with h0 | h0 | h0
  · exact (gmove_lo h h0).mono fun e w' ⟨he, ho, hg, hz⟩ => ⟨he, ho, hz, _, hg, laidOver_len (by omega) (by omega), over_lo q1 q2 (by omega)⟩
  · exact (gmove_eq h h0).mono fun e w' ⟨he, ho, hg, hz⟩ => ⟨he, ho, hz, _, hg, laidOver_len (by omega) (by omega), over_hi q1 q2 (by omega) hi⟩
  · exact (gmove_hi h ⟨h0, hi⟩).mono fun e w' ⟨he, ho, hg, hz⟩ => ⟨he, ho, hz, _, hg, laidOver_len (by omega) (by omega), over_hi q1 q2 (by omega) hi⟩
end
end Go.Proofs.YtcfdalmllegefaaGreatDoor
/- package gap: grow, any text. -/
namespace Go.Proofs.YtcfdalmllegefaaGreatDoor
open Go.RowKit Go.Lib
set_option linter.unusedVariables false
set_option linter.unusedSimpArgs false
section
variable {w w' : World} {t g : Nat}
set_option maxHeartbeats 1000000 in
theorem ggrow_no {B : List Int} {st en n : Nat} {fv : Value} (h : GapW w t g B st en fv) (hn : n ≤ en - st) :
    Calls Tryz.prog 252 #[.pointer (some ⟨t, 0, none⟩), .int .i64 n] w fun e w' => e = .returned (.tuple #[]) ∧ Below w.heap.size w w' := by
  have c0 : w.cell? ⟨t, 0, none⟩ = some (.slice (some ⟨g, 0, none⟩) B.length B.length) := h.blk.cell (j := 0) rfl
  have c1 : w.cell? ⟨t, 1, none⟩ = some (.int .i64 st) := h.blk.cell (j := 1) rfl
  have c2 : w.cell? ⟨t, 2, none⟩ = some (.int .i64 en) := h.blk.cell (j := 2) rfl
  have q1 := h.h1
  have q2 := h.h2
  have q3 := h.lim
  obtain ⟨G, hG⟩ : ∃ G, G = en - st := ⟨_, rfl⟩
  have s1 : IntKind.i64.wrap ((en : Int) - st) = (G : Int) := by rw [IntWalk.i64_in _ (by omega)]; omega
  have d1 : (n ≤ G) = True := eq_true (by omega)
  clear h hG q1 q2 q3 hn
  go_enter Tryz.func252, Tryz.ntmps252
  go_wp2_with fail
  go_region
  go_wp2_with fail
  refine bodyPost_ret (results_none rfl _ _ _) rfl ?_
  exact ⟨rfl, (Below.refl _ _).drew⟩
/-- What grow turns. -/
def GrowP (t : Nat) (B : List Int) (st en n : Nat) (fv : Value) (w w' : World) : Prop := Only (fun k => k = t) w w' ∧ ∃ g' B' en', w.heap.size ≤ g' ∧ GapW w' t g' B' st en' fv ∧ n ≤ en' - st ∧ B'.take st = B.take st ∧ B'.drop en' = B.drop en
set_option maxRecDepth 100000 in
set_option maxHeartbeats 2000000 in
theorem ggrow_yes {B : List Int} {st en n : Nat} {fv : Value} (h : GapW w t g B st en fv) (hn : en - st < n) (hn2 : n ≤ 65536) (hsz : B.length - (en - st) + n ≤ 65536) :
    Calls Tryz.prog 252 #[.pointer (some ⟨t, 0, none⟩), .int .i64 n] w fun e w' => e = .returned (.tuple #[]) ∧ GrowP t B st en n fv w w' := by
  have c0 : w.cell? ⟨t, 0, none⟩ = some (.slice (some ⟨g, 0, none⟩) B.length B.length) := h.blk.cell (j := 0) rfl
  have c1 : w.cell? ⟨t, 1, none⟩ = some (.int .i64 st) := h.blk.cell (j := 1) rfl
  have c2 : w.cell? ⟨t, 2, none⟩ = some (.int .i64 en) := h.blk.cell (j := 2) rfl
  have q1 := h.h1
  have q2 := h.h2
  have q3 := h.lim
  obtain ⟨L, hL⟩ : ∃ L, L = B.length := ⟨_, rfl⟩
  rw [← hL] at c0 hsz q2 q3
  obtain ⟨G, hG⟩ : ∃ G, G = en - st := ⟨_, rfl⟩
  obtain ⟨H2, hH2⟩ : ∃ H2, H2 = L / 2 := ⟨_, rfl⟩
  obtain ⟨M1, hM1⟩ : ∃ M1, M1 = n - G := ⟨_, rfl⟩
  obtain ⟨M2, hM2⟩ : ∃ M2, M2 = M1 + H2 := ⟨_, rfl⟩
  obtain ⟨M, hM⟩ : ∃ M, M = M2 + 16 := ⟨_, rfl⟩
  obtain ⟨T, hT⟩ : ∃ T, T = L + M := ⟨_, rfl⟩
  obtain ⟨E, hE⟩ : ∃ E, E = en + M := ⟨_, rfl⟩
  have s1 : IntKind.i64.wrap ((en : Int) - st) = (G : Int) := by rw [IntWalk.i64_in _ (by omega)]; omega
  have s2 : IntKind.i64.wrap ((n : Int) - G) = (M1 : Int) := by rw [IntWalk.i64_in _ (by omega)]; omega
  have s3 : IntKind.i64.wrap ((L : Int) / 2) = (H2 : Int) := by rw [IntWalk.i64_in _ (by omega)]; omega
  have s4 : IntKind.i64.wrap ((M1 : Int) + H2) = (M2 : Int) := by rw [IntWalk.i64_in _ (by omega)]; omega
  have s5 : IntKind.i64.wrap ((M2 : Int) + 16) = (M : Int) := by rw [IntWalk.i64_in _ (by omega)]; omega
  have s6 : IntKind.i64.wrap ((L : Int) + M) = (T : Int) := by rw [IntWalk.i64_in _ (by omega)]; omega
  have s7 : IntKind.i64.wrap ((en : Int) + M) = (E : Int) := by rw [IntWalk.i64_in _ (by omega)]; omega
  have d1 : (n ≤ G) = False := eq_false (by omega)
  have hmk : ∀ w : World, (Instr.makeSlice 190 (.int .i64 (T : Int)) (.int .i64 (T : Int))).run Tryz.prog w = .ok (.slice (some ⟨w.heap.size, 0, none⟩) T T) (w.alloc (.cells (rowR (List.replicate T 0)) 21)) := fun w => by
    obtain ⟨i, hi, hsz, hby, hz⟩ : ∃ i, Tryz.prog.info? 21 = some i ∧ i.size = 1 ∧ i.bytes = 4 ∧ i.zero = some (.int .i32 0) := ⟨(Tryz.prog.info? 21).get (by kernel_rfl), (Option.some_get _).symm, by kernel_rfl, by kernel_rfl, by kernel_rfl⟩
    have hr := run_makeSlice (P := Tryz.prog) (w := w) 190 21 i (.int .i32 0) Tryz.underlying190 hi hz .i64 .i64 (T : Int) (T : Int) (by omega) (by omega) (by rw [hsz]; omega) (by rw [hby]; omega) (by omega)
    rw [hr, hsz]
    have e2 : madeCells (Value.int .i32 0).cells (T * 1) = rowR (List.replicate T 0) := by
      rw [Nat.mul_one]
      apply Array.ext
      · simp [madeCells]
      · intro j h1 h2
        simp [madeCells, Value.cells, Nat.mod_one]
    rw [Int.toNat_natCast, e2]
  have b1 : st ≤ L := by omega
  have b2 : E ≤ T := by omega
  have ht := h.blk.lt
  have hg := h.buf.lt
  have hA := below1 w (.cells (rowR (List.replicate T 0)) 21)
  have hN : Blk (w.alloc (.cells (rowR (List.replicate T 0)) 21)) w.heap.size 21 (rowR (List.replicate T 0)) := Blk.made w _ _
  obtain ⟨w1, hcp, ho1, hn1, hz1⟩ := copy_over (w := (w.alloc (.cells (rowR (List.replicate T 0)) 21)).drew.drew) (gd := w.heap.size) (gs := g) (o := 0) (p := 0) (n := st) (dl := T) (dc := T) (sl := st) (sc := L) (D := List.replicate T 0) (S := B) hN ((h.buf.up hA : Blk _ _ _ _) : Blk (w.alloc (.cells (rowR (List.replicate T 0)) 21)).drew.drew g 21 (rowR B)) (by simp; omega) (by omega) (by show min st T = st; omega)
  have hcp1 := fun ty => hcp ty (some ⟨w.heap.size, 0, none⟩) (some ⟨g, 0, none⟩) (fun _ => ⟨rfl, rfl⟩)
  have hl1 : (laidOver (List.replicate T 0) 0 B 0 st).length = T := by rw [laidOver_len (by simp; omega) (by omega)]; simp
  have g1 : Blk w1 g 21 (rowR B) := (h.buf.up hA).kept (ho1.block g (by simp; omega) (by show ¬ g = w.heap.size; omega))
  have t1 : Blk w1 t 192 _ := (h.blk.up hA).kept (ho1.block t (by simp; omega) (by show ¬ t = w.heap.size; omega))
  obtain ⟨w2, hcp2, ho2, hn2', hz2⟩ := copy_over (w := w1.drew) (gd := w.heap.size) (gs := g) (o := E) (p := en) (n := L - en) (dl := T - E) (dc := T - E) (sl := L - en) (sc := L - en) hn1 g1 (by omega) (by omega) (by show min (L - en) (T - E) = L - en; omega)
  have t2 : Blk w2 t 192 _ := t1.kept (ho2.block t (by simp [hz1]; omega) (by show ¬ t = w.heap.size; omega))
  have hcp3 : ∀ ty, ((Builtin.copy_ #[190, 190] ty #[.slice (if T = E then some ⟨w.heap.size, 0, none⟩ else some ⟨w.heap.size, E, none⟩) (T - E) (T - E), .slice (if L = en then some ⟨g, 0, none⟩ else some ⟨g, en, none⟩) (L - en) (L - en)]).run Tryz.prog w1.drew = .ok (goInt ((L - en : Nat) : Int)) w2) := fun ty => hcp2 ty _ _ (fun h0 => ⟨if_neg (by omega), if_neg (by omega)⟩)
  have k0 : w1.cell? ⟨t, 0, none⟩ = some (.slice (some ⟨g, 0, none⟩) L L) := by rw [hL]; exact t1.cell (j := 0) rfl
  have k1 : w1.cell? ⟨t, 1, none⟩ = some (.int .i64 st) := t1.cell (j := 1) rfl
  have k2 : w1.cell? ⟨t, 2, none⟩ = some (.int .i64 en) := t1.cell (j := 2) rfl
  have m0 : w2.cell? ⟨t, 0, none⟩ = some (.slice (some ⟨g, 0, none⟩) L L) := by rw [hL]; exact t2.cell (j := 0) rfl
  have m1 : w2.cell? ⟨t, 1, none⟩ = some (.int .i64 st) := t2.cell (j := 1) rfl
  have m2 : w2.cell? ⟨t, 2, none⟩ = some (.int .i64 en) := t2.cell (j := 2) rfl
  have f0 := t2.fz 0
  have f2 := t2.fz 2
  have hfin := ((t2.set (j := 0) (by simp) (.slice (some ⟨w.heap.size, 0, none⟩) T T)).set (j := 2) (by simp) (.int .i64 E))
  have hon : Only (fun k => k = t) w ((w2.setCell ⟨t, 0, none⟩ (.slice (some ⟨w.heap.size, 0, none⟩) T T)).setCell ⟨t, 2, none⟩ (.int .i64 E)) :=
    (((((((Only.refl (fun k => k = t) w).alloc _).drew.drew).then ho1 (fun k hk hlt => by omega)).drew).then ho2 (fun k hk hlt => by omega)).setCell (p := ⟨t, 0, none⟩) rfl _).setCell (p := ⟨t, 2, none⟩) rfl _
  have hB2 : (laidOver (laidOver (List.replicate T 0) 0 B 0 st) E B en (L - en)).length = T := by rw [laidOver_len (by omega) (by omega)]; exact hl1
  have htk : (laidOver (laidOver (List.replicate T 0) 0 B 0 st) E B en (L - en)).take st = B.take st := by
    unfold laidOver
    have e1 : (B.take st).length = st := by simp; omega
    rw [List.append_assoc, List.take_append_of_le_length (by simp; omega), List.take_take, Nat.min_eq_left (by omega)]
    simp only [List.take_zero, List.nil_append, List.drop_zero]
    rw [List.take_append_of_le_length (by omega), List.take_take, Nat.min_self]
  have hdr : (laidOver (laidOver (List.replicate T 0) 0 B 0 st) E B en (L - en)).drop E = B.drop en := by
    have e0 : (laidOver (List.replicate T 0) 0 B 0 st).take E = (laidOver (List.replicate T 0) 0 B 0 st).take E := rfl
    generalize laidOver (List.replicate T 0) 0 B 0 st = D at *
    unfold laidOver
    have e1 : (D.take E).length = E := by simp; omega
    rw [List.append_assoc, List.drop_append, List.drop_eq_nil_of_le (by omega), List.nil_append, e1, Nat.sub_self, List.drop_zero, List.take_of_length_le (by simp; omega), show E + (L - en) = D.length by omega, List.drop_length, List.append_nil]
  have HF : Hid (GrowP t B st en n fv w ((w2.setCell ⟨t, 0, none⟩ (.slice (some ⟨w.heap.size, 0, none⟩) T T)).setCell ⟨t, 2, none⟩ (.int .i64 E))) := Lib.hid
    ⟨hon, w.heap.size, _, E, Nat.le_refl _, ⟨by rw [hB2]; exact hfin, hn2'.kept (by rw [Below.heap_setCell _ _ _ _ (fun e => by simp at e; omega), Below.heap_setCell _ _ _ _ (fun e => by simp at e; omega)]), by omega, by rw [hB2]; omega, by omega, by rw [hB2]; omega⟩, by omega, htk, hdr⟩
  have AA := Lib.hid (⟨hL, hG, hH2, hM1, hM2, hM, hT, hE, q1, q3, hn, hn2, hsz⟩ : _ ∧ _ ∧ _ ∧ _ ∧ _ ∧ _ ∧ _ ∧ _ ∧ _ ∧ _ ∧ _ ∧ _ ∧ _)
  have H := Lib.hid h
  clear h hL hG hH2 hM1 hM2 hM hT hE q1 q3 hn hn2 hsz hA hN hcp hl1 g1 t1 hn1 ho1 hz1 ho2 hn2' hz2 t2 hcp2 hg hfin hon hB2 htk hdr
  go_enter Tryz.func252, Tryz.ntmps252
  go_wp2_with fail
  go_region
  go_wp2_with fail
  go_region
  go_wp2_with fail
  go_region
  go_wp2_with fail
  all_goals
    go_end0
    exact ⟨rfl, by first | exact HF.out | (have hTE : T = E := (by assumption); have q := HF.out; rw [hTE] at q; exact q)⟩
end
end Go.Proofs.YtcfdalmllegefaaGreatDoor
