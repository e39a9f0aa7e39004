import Derived.Test.YtklaeecegkpgmaaGreatDoorJo
/- package column: Begin, End, Column, Seek, Lines. -/
namespace Go.Proofs.YtklaeecegkpgmaaGreatDoor
open Go.RowKit
set_option linter.unusedVariables false
set_option linter.unusedSimpArgs false
theorem cell_new (w : World) (c : Value) (cs : Array Value) (T : TypeId) : True := trivial
section
variable {w w' : World} {v b pt lo hi tab : Nat} {cs : List Nat}
set_option maxHeartbeats 2000000 in
theorem begin_ok (h : BufR w b cs pt lo hi) (k : Nat) (h2 : lo ≤ k) (h3 : k ≤ hi) :
    Calls Tryz.prog 5 #[.pointer (some ⟨b, 0, none⟩), .int .i64 k] w fun e w' => e = .returned (.tuple #[.int .i64 (lineB cs lo k), .int .i64 0]) ∧ Below w.heap.size w w' := by
  have hl := h.len
  have HH := Lib.hid h
  clear h
  go_enter Tryz.func5, Tryz.ntmps5
  go_wp2_with fail
  have HB0 := Lib.hid (below1 w (.cells #[.int .i64 k] 3))
  have hc := (MapKept.heap_alloc w (.cells #[.int .i64 k] 3)).1
  generalize w.alloc (.cells #[.int .i64 k] 3) = W at *
  refine (look_ok (HH.out.up HB0.out) 0 k w.heap.size 1 (by simp only [World.cell?, hc]; rfl) h2 h3).mono ?_
  rintro e w1 ⟨rfl, hb1⟩
  have HB1 := Lib.hid (up2 HB0.out hb1)
  clear hb1 hc HB0
  go_wp2_with fail
  have HB2 := below1 w1 (.cells #[.pointer (some ⟨b, 0, none⟩), .int .i64 lo, .int .i64 hi, .int .i64 0] 41)
  generalize w1.alloc (.cells #[.pointer (some ⟨b, 0, none⟩), .int .i64 lo, .int .i64 hi, .int .i64 0] 41) = W1 at *
  refine (vbegin ((HH.out.up HB1.out).up HB2) 0 k hl.2.1 h2 h3).mono ?_
  rintro e w2 ⟨rfl, hb2⟩
  have HB3 := Lib.hid (up2 HB1.out (up2 HB2 hb2))
  clear HB2 hb2
  go_wp2_with fail
  go_ret2
  exact ⟨rfl, HB3.out⟩
set_option maxHeartbeats 2000000 in
theorem end_ok (h : BufR w b cs pt lo hi) (k : Nat) (h2 : lo ≤ k) (h3 : k ≤ hi) :
    Calls Tryz.prog 6 #[.pointer (some ⟨b, 0, none⟩), .int .i64 k] w fun e w' => e = .returned (.tuple #[.int .i64 (lineE cs hi k), .int .i64 0]) ∧ Below w.heap.size w w' := by
  have hl := h.len
  have HH := Lib.hid h
  clear h
  go_enter Tryz.func6, Tryz.ntmps6
  go_wp2_with fail
  have HB0 := Lib.hid (below1 w (.cells #[.int .i64 k] 3))
  have hc := (MapKept.heap_alloc w (.cells #[.int .i64 k] 3)).1
  generalize w.alloc (.cells #[.int .i64 k] 3) = W at *
  refine (look_ok (HH.out.up HB0.out) 0 k w.heap.size 1 (by simp only [World.cell?, hc]; rfl) h2 h3).mono ?_
  rintro e w1 ⟨rfl, hb1⟩
  have HB1 := Lib.hid (up2 HB0.out hb1)
  clear hb1 hc HB0
  go_wp2_with fail
  have HB2 := below1 w1 (.cells #[.pointer (some ⟨b, 0, none⟩), .int .i64 lo, .int .i64 hi, .int .i64 0] 41)
  generalize w1.alloc (.cells #[.pointer (some ⟨b, 0, none⟩), .int .i64 lo, .int .i64 hi, .int .i64 0] 41) = W1 at *
  refine (vend ((HH.out.up HB1.out).up HB2) 0 k (by omega) h3).mono ?_
  rintro e w2 ⟨rfl, hb2⟩
  have HB3 := Lib.hid (up2 HB1.out (up2 HB2 hb2))
  clear HB2 hb2
  go_wp2_with fail
  go_ret2
  exact ⟨rfl, HB3.out⟩
set_option maxHeartbeats 2000000 in
theorem column_ok (h : BufR w b cs pt lo hi) (k tab : Nat) (ht1 : 1 ≤ tab) (ht2 : tab ≤ 64) (h2 : lo ≤ k) (h3 : k ≤ hi) :
    Calls Tryz.prog 7 #[.pointer (some ⟨b, 0, none⟩), .int .i64 k, .int .i64 tab] w fun e w' => e = .returned (.tuple #[.int .i64 (colN widN cs tab (lineB cs lo k) k), .int .i64 0]) ∧ Below w.heap.size w w' := by
  have hl := h.len
  have HH := Lib.hid h
  clear h
  go_enter Tryz.func7, Tryz.ntmps7
  go_wp2_with fail
  refine (tabbed_ok tab ht1 ht2 w).mono ?_
  rintro e w1 ⟨rfl, rfl⟩
  go_wp2_with fail
  have HB0 := Lib.hid (below1 w (.cells #[.int .i64 k] 3))
  have hc := (MapKept.heap_alloc w (.cells #[.int .i64 k] 3)).1
  generalize w.alloc (.cells #[.int .i64 k] 3) = W at *
  refine (look_ok (HH.out.up HB0.out) tab k w.heap.size 1 (by simp only [World.cell?, hc]; rfl) h2 h3).mono ?_
  rintro e w1 ⟨rfl, hb1⟩
  have HB1 := Lib.hid (up2 HB0.out hb1)
  clear hb1 hc HB0
  go_wp2_with fail
  have HB2 := below1 w1 (.cells #[.pointer (some ⟨b, 0, none⟩), .int .i64 lo, .int .i64 hi, .int .i64 tab] 41)
  generalize w1.alloc (.cells #[.pointer (some ⟨b, 0, none⟩), .int .i64 lo, .int .i64 hi, .int .i64 tab] 41) = W1 at *
  refine (vcolumn ((HH.out.up HB1.out).up HB2) tab k ht1 ht2 h2 h3).mono ?_
  rintro e w2 ⟨rfl, hb2⟩
  have HB3 := Lib.hid (up2 HB1.out (up2 HB2 hb2))
  clear HB2 hb2
  go_wp2_with fail
  go_ret2
  exact ⟨rfl, HB3.out⟩
set_option maxHeartbeats 2000000 in
theorem seek_ok (h : BufR w b cs pt lo hi) (k tab col : Nat) (ht1 : 1 ≤ tab) (ht2 : tab ≤ 64) (h2 : lo ≤ k) (h3 : k ≤ hi) :
    Calls Tryz.prog 8 #[.pointer (some ⟨b, 0, none⟩), .int .i64 k, .int .i64 col, .int .i64 tab] w fun e w' => e = .returned (.tuple #[.int .i64 (seekN widN cs tab (lineB cs lo k) (lineE cs hi k) col : Nat), .int .i64 (colN widN cs tab (lineB cs lo k) (seekN widN cs tab (lineB cs lo k) (lineE cs hi k) col) : Nat), .int .i64 0]) ∧ Below w.heap.size w w' := by
  have hl := h.len
  have HH := Lib.hid h
  clear h
  have d9 : decide ((0 : Int) ≤ (col : Int)) = true := decide_eq_true (by omega)
  go_enter Tryz.func8, Tryz.ntmps8
  go_wp2_with fail
  refine (tabbed_ok tab ht1 ht2 w).mono ?_
  rintro e w1 ⟨rfl, rfl⟩
  go_wp2_with fail
  have HB0 := Lib.hid (below1 w (.cells #[.int .i64 k] 3))
  have hc := (MapKept.heap_alloc w (.cells #[.int .i64 k] 3)).1
  generalize w.alloc (.cells #[.int .i64 k] 3) = W at *
  refine (look_ok (HH.out.up HB0.out) tab k w.heap.size 1 (by simp only [World.cell?, hc]; rfl) h2 h3).mono ?_
  rintro e w1 ⟨rfl, hb1⟩
  have HB1 := Lib.hid (up2 HB0.out hb1)
  clear hb1 hc HB0
  go_wp2_with fail
  have HB2 := below1 w1 (.cells #[.pointer (some ⟨b, 0, none⟩), .int .i64 lo, .int .i64 hi, .int .i64 tab] 41)
  generalize w1.alloc (.cells #[.pointer (some ⟨b, 0, none⟩), .int .i64 lo, .int .i64 hi, .int .i64 tab] 41) = W1 at *
  refine (vseek ((HH.out.up HB1.out).up HB2) tab k col ht1 ht2 h2 h3).mono ?_
  rintro e w2 ⟨rfl, hb2⟩
  have HB3 := Lib.hid (up2 HB1.out (up2 HB2 hb2))
  clear HB2 hb2
  go_wp2_with fail
  refine bodyPost_ret (v := .tuple #[.int .i64 (seekN widN cs tab (lineB cs lo k) (lineE cs hi k) col : Nat), .int .i64 (colN widN cs tab (lineB cs lo k) (seekN widN cs tab (lineB cs lo k) (lineE cs hi k) col) : Nat), .int .i64 0]) (by simp [results, Tryz.f8, go_sem]) rfl ⟨rfl, HB3.out⟩
set_option maxHeartbeats 2000000 in
theorem lines_fwd (h : BufR w b cs pt lo hi) (k n : Nat) (hn : n ≤ 1000000) (h2 : lo ≤ k) (h3 : k ≤ hi) :
    Calls Tryz.prog 9 #[.pointer (some ⟨b, 0, none⟩), .int .i64 k, .int .i64 n] w fun e w' => e = .returned (.tuple #[.int .i64 (linesF cs lo hi n k).1, .int .i64 (linesF cs lo hi n k).2, .int .i64 0]) ∧ Below w.heap.size w w' := by
  have hl := h.len
  have HH := Lib.hid h
  clear h
  go_enter Tryz.func9, Tryz.ntmps9
  go_wp2_with fail
  have HB0 := Lib.hid (below1 w (.cells #[.int .i64 k] 3))
  have hc := (MapKept.heap_alloc w (.cells #[.int .i64 k] 3)).1
  generalize w.alloc (.cells #[.int .i64 k] 3) = W at *
  refine (look_ok (HH.out.up HB0.out) 0 k w.heap.size 1 (by simp only [World.cell?, hc]; rfl) h2 h3).mono ?_
  rintro e w1 ⟨rfl, hb1⟩
  have HB1 := Lib.hid (up2 HB0.out hb1)
  clear hb1 hc HB0
  go_wp2_with fail
  have HB2 := below1 w1 (.cells #[.pointer (some ⟨b, 0, none⟩), .int .i64 lo, .int .i64 hi, .int .i64 0] 41)
  generalize w1.alloc (.cells #[.pointer (some ⟨b, 0, none⟩), .int .i64 lo, .int .i64 hi, .int .i64 0] 41) = W1 at *
  refine (vlines_fwd ((HH.out.up HB1.out).up HB2) 0 k n hn h2 h3).mono ?_
  rintro e w2 ⟨rfl, hb2⟩
  have HB3 := Lib.hid (up2 HB1.out (up2 HB2 hb2))
  clear HB2 hb2
  go_wp2_with fail
  refine bodyPost_ret (v := .tuple #[.int .i64 (linesF cs lo hi n k).1, .int .i64 (linesF cs lo hi n k).2, .int .i64 0]) (by simp [results, Tryz.f9, go_sem]) rfl ⟨rfl, HB3.out⟩
set_option maxHeartbeats 2000000 in
theorem lines_back (h : BufR w b cs pt lo hi) (k n : Nat) (hn : n ≤ 1000000) (hn1 : 1 ≤ n) (h2 : lo ≤ k) (h3 : k ≤ hi) :
    Calls Tryz.prog 9 #[.pointer (some ⟨b, 0, none⟩), .int .i64 k, .int .i64 (-(n : Int))] w fun e w' => e = .returned (.tuple #[.int .i64 (bwdN cs lo n (lineB cs lo k)).1, .int .i64 (bwdN cs lo n (lineB cs lo k)).2, .int .i64 0]) ∧ Below w.heap.size w w' := by
  have hl := h.len
  have HH := Lib.hid h
  clear h
  go_enter Tryz.func9, Tryz.ntmps9
  go_wp2_with fail
  have HB0 := Lib.hid (below1 w (.cells #[.int .i64 k] 3))
  have hc := (MapKept.heap_alloc w (.cells #[.int .i64 k] 3)).1
  generalize w.alloc (.cells #[.int .i64 k] 3) = W at *
  refine (look_ok (HH.out.up HB0.out) 0 k w.heap.size 1 (by simp only [World.cell?, hc]; rfl) h2 h3).mono ?_
  rintro e w1 ⟨rfl, hb1⟩
  have HB1 := Lib.hid (up2 HB0.out hb1)
  clear hb1 hc HB0
  go_wp2_with fail
  have HB2 := below1 w1 (.cells #[.pointer (some ⟨b, 0, none⟩), .int .i64 lo, .int .i64 hi, .int .i64 0] 41)
  generalize w1.alloc (.cells #[.pointer (some ⟨b, 0, none⟩), .int .i64 lo, .int .i64 hi, .int .i64 0] 41) = W1 at *
  refine (vlines_back ((HH.out.up HB1.out).up HB2) 0 k n hn hn1 h2 h3).mono ?_
  rintro e w2 ⟨rfl, hb2⟩
  have HB3 := Lib.hid (up2 HB1.out (up2 HB2 hb2))
  clear HB2 hb2
  go_wp2_with fail
  refine bodyPost_ret (v := .tuple #[.int .i64 (bwdN cs lo n (lineB cs lo k)).1, .int .i64 (bwdN cs lo n (lineB cs lo k)).2, .int .i64 0]) (by simp [results, Tryz.f9, go_sem]) rfl ⟨rfl, HB3.out⟩
end
end Go.Proofs.YtklaeecegkpgmaaGreatDoor
