import Derived.Test.YtafdebkamnmheaaGreatDoorSyI
import Derived.Test.YtafdebkamnmheaaGreatDoorJa
/- copyistlaw24: lives. -/
namespace Go.Proofs.YtafdebkamnmheaaGreatDoor
open Go.RowKit
set_option linter.unusedVariables false
set_option linter.unusedSimpArgs false
section
variable {w w' : World}
theorem lv_a : chrs ⟨#[97, 9, 98]⟩ = [97, 9, 98] := by decide
theorem lv_b : chrs ⟨#[40, 108, 101, 116, 32, 40, 120, 41, 10, 121, 41]⟩ = liC := by decide
theorem lv_c : colN widN [97, 9, 98] 8 (lineB [97, 9, 98] 1 3) 3 = 8 := by decide
theorem lv_s : seekN widN [97, 9, 98] 8 (lineB [97, 9, 98] 1 1) (lineE [97, 9, 98] 4 1) 5 = 3 := by decide
theorem lv_t : colN widN [97, 9, 98] 8 (lineB [97, 9, 98] 1 1) 3 = 8 := by decide
set_option maxHeartbeats 4000000 in
theorem lives_true {N : Nat} (hT : Tabs N w) (hR : Rules N w) (hN : N ≤ w.heap.size) :
    Calls Tryz.prog 5 #[] w fun r w' => r = .returned (.bool true) ∧ Below w.heap.size w w' := by
  have HT := Lib.hid hT
  have HR := Lib.hid hR
  clear hT hR
  go_enter Tryz.func5, Tryz.ntmps5
  go_wp2_with fail
  have h1 := of_ok HT.out HR.out hN ⟨#[97, 9, 98]⟩ (by decide) (by decide)
  rw [lv_a] at h1
  refine h1.mono ?_
  rintro e w1 ⟨b, g, S, rfl, hb1, hbt, hlo, hhi, hpt, hx1, hx2, hx3⟩
  have hr := hbt.r
  rw [hlo, hhi] at hr
  have cq : ∀ w', Below w1.heap.size w1 w' → Calls Tryz.prog 12 #[pAt b, .int .i64 3, .int .i64 8] w' fun e w'' => e = .returned (.tuple #[.int .i64 8, .int .i64 0]) ∧ Below w'.heap.size w' w'' := fun w' hb => by
    have q := column_ok (hr.up hb) 3 8 (by omega) (by omega) (by omega) (by simp)
    rw [lv_c] at q; exact q
  have sq : ∀ w', Below w1.heap.size w1 w' → Calls Tryz.prog 13 #[pAt b, .int .i64 1, .int .i64 5, .int .i64 8] w' fun e w'' => e = .returned (.tuple #[.int .i64 3, .int .i64 8, .int .i64 0]) ∧ Below w'.heap.size w' w'' := fun w' hb => by
    have q := seek_ok (hr.up hb) 1 8 5 (by omega) (by omega) (by omega) (by simp)
    rw [show 1 + [97, 9, 98].length = 4 from rfl, lv_s, lv_t] at q; exact q
  have CQ := Lib.hid cq
  have SQ := Lib.hid sq
  have B1 := Lib.hid hb1
  have z1 := hb1.size
  clear cq sq hr hbt hlo hhi hpt hx1 hx2 hx3 hb1 h1
  go_wp2_with fail
  have h1 := of_ok ((HT.out.up B1.out).low hN) ((HR.out.up B1.out).low hN) (by omega) ⟨#[40, 108, 101, 116, 32, 40, 120, 41, 10, 121, 41]⟩ (by decide) (by decide)
  rw [lv_b] at h1
  refine h1.mono ?_
  rintro e w2 ⟨c, g2, S2, rfl, hb2, hbt, hlo, hhi, hpt, hx1, hx2, hx3⟩
  have T2 := Lib.hid ((HT.out.up B1.out).up hb2)
  have H2 := Lib.hid hbt
  have L2 := Lib.hid hlo
  have I2 := Lib.hid hhi
  have B2 := Lib.hid hb2
  clear hbt hlo hhi hpt hx1 hx2 hx3 hb2 h1 z1
  go_wp2_with fail
  refine (CQ.out w2 B2.out).mono ?_
  rintro e w3 ⟨rfl, hb3⟩
  have B3 := Lib.hid hb3
  clear hb3
  go_wp2_with fail
  refine (SQ.out w3 (up2 B2.out B3.out)).mono ?_
  rintro e w4 ⟨rfl, hb4⟩
  have B4 := Lib.hid (up2 B3.out hb4)
  clear hb4
  go_wp2_with fail
  refine (synLisp w4).mono ?_
  rintro e w5 ⟨tb, bs, ms, mo, rfl, hb5, hl5⟩
  have B5 := Lib.hid (up2 B4.out hb5)
  have HL := Lib.hid hl5
  clear hb5 hl5
  go_wp2_with fail
  refine (lisp_ok (T2.out.up B5.out) HL.out (H2.out.up B5.out) L2.out I2.out).mono ?_
  rintro e w6 ⟨rfl, hb6⟩
  have B6 := Lib.hid (up2 B5.out hb6)
  clear hb6
  go_wp2_with fail
  go_ret
  exact ⟨rfl, up2 B1.out (up2 B2.out B6.out)⟩
end
end Go.Proofs.YtafdebkamnmheaaGreatDoor
/- copyistlaw24: light. -/
namespace Go.Proofs.YtafdebkamnmheaaGreatDoor
open Go.RowKit
set_option linter.unusedVariables false
set_option linter.unusedSimpArgs false
section
variable {w w' : World}
def lightB (s : ByteArray) : Bool := decide (s.size ≤ 120) && vld s
set_option maxHeartbeats 1000000 in
theorem light_ok (s : ByteArray) (w : World) : Calls Tryz.prog 6 #[.string s] w fun r w' => r = .returned (.bool (lightB s)) ∧ Below w.heap.size w w' := by
  by_cases h : s.size ≤ 120
  · have HV := Lib.hid (rvalid_any s w (by omega))
    have e : lightB s = vld s := by unfold lightB; rw [decide_eq_true h]; rfl
    have d : decide ((s.size : Int) ≤ 120) = true := decide_eq_true (by omega)
    rw [e]
    clear e h
    go_enter Tryz.func6, Tryz.ntmps6
    go_wp2_with fail
    refine HV.out.mono ?_
    rintro e w1 ⟨rfl, hb1⟩
    have B1 := Lib.hid hb1
    clear hb1
    go_wp2_with fail
    go_ret
    exact ⟨rfl, B1.out⟩
  · have e : lightB s = false := by unfold lightB; rw [decide_eq_false h]; rfl
    have d : decide ((s.size : Int) ≤ 120) = false := decide_eq_false (by omega)
    rw [e]
    clear e h
    go_enter Tryz.func6, Tryz.ntmps6
    go_wp2_with fail
    go_ret
    exact ⟨rfl, Below.refl _ w⟩
end
end Go.Proofs.YtafdebkamnmheaaGreatDoor
/- ColumnLines in plain Lean. -/
namespace Go.Proofs.YtafdebkamnmheaaGreatDoor
set_option linter.unusedVariables false
section
variable {cs : List Nat} {lo hi : Nat}
theorem linesF_zero (k : Nat) : linesF cs lo hi 0 k = (lineB cs lo k, 0) := by simp [linesF, fwdN]
theorem linesF_is (n k T L : Nat) (hn : 0 < n) (h1 : lo ≤ k) (h2 : k ≤ hi) (h : linesF cs lo hi n k = (T, L)) :
    L ≤ n ∧ k ≤ T ∧ T ≤ hi ∧ feedsIn cs k T = n - L ∧ (0 < L → T = hi) ∧ (L = 0 → k < T ∧ chr cs (T - 1) = 10) := by
  obtain ⟨g1, g2, g3, g4, g5, g6⟩ := fwdN_is (cs := cs) (hi := hi) n k h2
  unfold linesF at h
  split at h
  · rename_i h0
    obtain ⟨g7, g8⟩ := g6 h0 hn
    have e : lineB cs lo (fwdN cs hi n k).1 = (fwdN cs hi n k).1 := lineB_eq _ _ (by omega) (Nat.le_refl _) (fun j h1 h2 => by omega) (.inr ⟨by omega, g8⟩)
    rw [e] at h
    obtain ⟨rfl, rfl⟩ := Prod.mk.inj h
    exact ⟨Nat.zero_le _, g2, g3, by rw [g4, h0], fun h => absurd h (by omega), fun _ => ⟨g7, g8⟩⟩
  · rename_i h0
    rw [show fwdN cs hi n k = ((fwdN cs hi n k).1, (fwdN cs hi n k).2) from rfl] at h
    obtain ⟨rfl, rfl⟩ := Prod.mk.inj h
    exact ⟨g1, g2, g3, g4, g5, fun h => absurd h h0⟩
theorem back_is (n k T L : Nat) (h1 : lo ≤ k) (h2 : k ≤ T) (h : feedsIn cs k T = n - L) : bwdN cs lo (n - L) (lineB cs lo T) = (lineB cs lo k, 0) := bwdN_back _ k T h1 h2 h
theorem up_is (k : Nat) (h1 : lo ≤ k) : bwdN cs lo 1 (lineB cs lo k) = (if lineB cs lo k = lo then (lo, 1) else (lineB cs lo (lineB cs lo k - 1), 0)) := by
  simp [bwdN]
end
end Go.Proofs.YtafdebkamnmheaaGreatDoor
