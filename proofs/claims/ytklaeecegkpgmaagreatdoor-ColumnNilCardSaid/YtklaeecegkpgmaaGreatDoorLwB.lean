import Derived.Test.YtklaeecegkpgmaaGreatDoorSyI
/- copyistlaw24: lives. -/
namespace Go.Proofs.YtklaeecegkpgmaaGreatDoor
open Go.RowKit
set_option linter.unusedVariables false
set_option linter.unusedSimpArgs false
section
variable {w w' : World}
theorem lv_a : chrs ⟨#[97, 9, 98]⟩ = [97, 9, 98] := by decide
theorem lv_b : chrs ⟨#[40, 108, 101, 116, 32, 40, 120, 41, 10, 121, 41]⟩ = liC := by decide
theorem lv_c : colN widN [97, 9, 98] 8 (lineB [97, 9, 98] 1 3) 3 = 8 := by decide
theorem lv_s : seekN widN [97, 9, 98] 8 (lineB [97, 9, 98] 1 1) (lineE [97, 9, 98] 4 1) 5 = 3 := by decide
theorem lv_t : colN widN [97, 9, 98] 8 (lineB [97, 9, 98] 1 1) 3 = 8 := by decide
set_option maxHeartbeats 4000000 in
theorem lives_true {N : Nat} (hT : Tabs N w) (hR : Rules N w) (hN : N ≤ w.heap.size) :
    Calls Tryz.prog 4 #[] w fun r w' => r = .returned (.bool true) ∧ Below w.heap.size w w' := by
  have HT := Lib.hid hT
  have HR := Lib.hid hR
  clear hT hR
  go_enter Tryz.func4, Tryz.ntmps4
  go_wp2_with fail
  have h1 := of_ok HT.out HR.out hN ⟨#[97, 9, 98]⟩ (by decide) (by decide)
  rw [lv_a] at h1
  refine h1.mono ?_
  rintro e w1 ⟨b, g, S, rfl, hb1, hbt, hlo, hhi, hpt, hx1, hx2, hx3⟩
  have hr := hbt.r
  rw [hlo, hhi] at hr
  have cq : ∀ w', Below w1.heap.size w1 w' → Calls Tryz.prog 7 #[pAt b, .int .i64 3, .int .i64 8] w' fun e w'' => e = .returned (.tuple #[.int .i64 8, .int .i64 0]) ∧ Below w'.heap.size w' w'' := fun w' hb => by
    have q := column_ok (hr.up hb) 3 8 (by omega) (by omega) (by omega) (by simp)
    rw [lv_c] at q; exact q
  have sq : ∀ w', Below w1.heap.size w1 w' → Calls Tryz.prog 8 #[pAt b, .int .i64 1, .int .i64 5, .int .i64 8] w' fun e w'' => e = .returned (.tuple #[.int .i64 3, .int .i64 8, .int .i64 0]) ∧ Below w'.heap.size w' w'' := fun w' hb => by
    have q := seek_ok (hr.up hb) 1 8 5 (by omega) (by omega) (by omega) (by simp)
    rw [show 1 + [97, 9, 98].length = 4 from rfl, lv_s, lv_t] at q; exact q
  have CQ := Lib.hid cq
  have SQ := Lib.hid sq
  have B1 := Lib.hid hb1
  have z1 := hb1.size
  clear cq sq hr hbt hlo hhi hpt hx1 hx2 hx3 hb1 h1
  go_wp2_with fail
  have h1 := of_ok ((HT.out.up B1.out).low hN) ((HR.out.up B1.out).low hN) (by omega) ⟨#[40, 108, 101, 116, 32, 40, 120, 41, 10, 121, 41]⟩ (by decide) (by decide)
  rw [lv_b] at h1
  refine h1.mono ?_
  rintro e w2 ⟨c, g2, S2, rfl, hb2, hbt, hlo, hhi, hpt, hx1, hx2, hx3⟩
  have T2 := Lib.hid ((HT.out.up B1.out).up hb2)
  have H2 := Lib.hid hbt
  have L2 := Lib.hid hlo
  have I2 := Lib.hid hhi
  have B2 := Lib.hid hb2
  clear hbt hlo hhi hpt hx1 hx2 hx3 hb2 h1 z1
  go_wp2_with fail
  refine (CQ.out w2 B2.out).mono ?_
  rintro e w3 ⟨rfl, hb3⟩
  have B3 := Lib.hid hb3
  clear hb3
  go_wp2_with fail
  refine (SQ.out w3 (up2 B2.out B3.out)).mono ?_
  rintro e w4 ⟨rfl, hb4⟩
  have B4 := Lib.hid (up2 B3.out hb4)
  clear hb4
  go_wp2_with fail
  refine (synLisp w4).mono ?_
  rintro e w5 ⟨tb, bs, ms, mo, rfl, hb5, hl5⟩
  have B5 := Lib.hid (up2 B4.out hb5)
  have HL := Lib.hid hl5
  clear hb5 hl5
  go_wp2_with fail
  refine (lisp_ok (T2.out.up B5.out) HL.out (H2.out.up B5.out) L2.out I2.out).mono ?_
  rintro e w6 ⟨rfl, hb6⟩
  have B6 := Lib.hid (up2 B5.out hb6)
  clear hb6
  go_wp2_with fail
  go_ret
  exact ⟨rfl, up2 B1.out (up2 B2.out B6.out)⟩
end
end Go.Proofs.YtklaeecegkpgmaaGreatDoor
