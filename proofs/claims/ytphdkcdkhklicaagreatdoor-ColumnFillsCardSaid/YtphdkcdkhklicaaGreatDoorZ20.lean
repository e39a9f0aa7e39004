import Derived.Test.YtphdkcdkhklicaaGreatDoorZ19
import Derived.Test.YtphdkcdkhklicaaGreatDoorZ04
/- package column: Lisp at the example's text. -/
namespace Go.Proofs.YtphdkcdkhklicaaGreatDoor
open Go.RowKit
set_option linter.unusedVariables false
set_option linter.unusedSimpArgs false
deriving instance DecidableEq for OvS
section
variable {w w' : World} {b g tb bs ms mo : Nat} {S : BS}
set_option maxHeartbeats 2000000 in
theorem pre0_ok (w : World) : Calls Tryz.prog 142 #[.string ⟨#[108, 101, 116]⟩, .string ⟨#[100, 101, 102]⟩] w fun e w' => e = .returned (.bool false) ∧ w = w' := by
  have hb : (binOp .eql 9 (.string ⟨#[108, 101, 116]⟩) (.string ⟨#[100, 101, 102]⟩)).run Tryz.prog w = .ok (.bool false) w := by kernel_rfl
  go_enter Tryz.func142, Tryz.ntmps142
  go_wp2_with fail
  go_ret
  refine ⟨?_, rfl⟩
  simp only [Array.getD_eq_getD_getElem?]
  simp
  decide +kernel
set_option maxHeartbeats 2000000 in
theorem pre_ok (w : World) : Calls Tryz.prog 102 #[.string ⟨#[108, 101, 116]⟩, .string ⟨#[100, 101, 102]⟩] w fun e w' => e = .returned (.bool false) ∧ w = w' := by
  go_enter Tryz.func102, Tryz.ntmps102
  go_wp2_with fail
  refine (pre0_ok w).mono ?_
  rintro e w1 ⟨rfl, rfl⟩
  go_wp2_with fail
  go_ret
  exact ⟨rfl, rfl⟩
set_option maxHeartbeats 2000000 in
theorem body_ok (w : World) : Calls Tryz.prog 52 #[.string ⟨#[108, 101, 116]⟩] w fun e w' => e = .returned (.bool true) ∧ w = w' := by
  go_enter Tryz.func52, Tryz.ntmps52
  go_wp2_with fail
  refine (pre_ok w).mono ?_
  rintro e w1 ⟨rfl, rfl⟩
  go_wp2_with fail
  go_ret
  exact ⟨rfl, rfl⟩
def liC : List Nat := [40, 108, 101, 116, 32, 40, 120, 41, 10, 121, 41]
theorem li_pre : encS (subL liC 1 10) = ⟨#[40, 108, 101, 116, 32, 40, 120, 41, 10]⟩ := by decide
theorem li_let : encS (subL liC 2 5) = ⟨#[108, 101, 116]⟩ := by decide
theorem li_len : rlenG ⟨#[40, 108, 101, 116, 32, 40, 120, 41, 10]⟩ = 9 := by decide
theorem li_val : (charsD (⟨#[40, 108, 101, 116, 32, 40, 120, 41, 10]⟩ : ByteArray).data.toList).isSome = true := by decide
theorem li_chrs : chrs ⟨#[40, 108, 101, 116, 32, 40, 120, 41, 10]⟩ = [40, 108, 101, 116, 32, 40, 120, 41, 10] := by decide
theorem li_ov : (ovF [40, 108, 101, 116, 32, 40, 120, 41, 10] 9) = ⟨[0], 0, 0, false, 0, false⟩ := by decide
theorem li_b10 : lineB liC 1 10 = 10 := by decide
theorem li_b1 : lineB liC 1 1 = 1 := by decide
theorem li_e1 : lineE liC 12 1 = 9 := by decide
theorem li_c1 : colN widN liC 8 1 1 = 0 := by decide
abbrev vv1 (b : Nat) : Value := .agg #[.pointer (some ⟨b, 0, none⟩), .int .i64 1, .int .i64 12, .int .i64 8]
theorem li_text : (⟨#[108, 101, 116]⟩ : ByteArray) ≠ ⟨#[]⟩ := by decide
set_option maxRecDepth 100000 in
set_option maxHeartbeats 4000000 in
theorem lisp_ok {N : Nat} (hT : Tabs N w) (hL : LspT w tb bs ms mo) (h : BufT w b g S liC) (hlo : S.lo = 1) (hhi : S.hi = 12) :
    Calls Tryz.prog 12 #[pAt b, pAt tb, .int .i64 10, .int .i64 8] w fun e w' => e = .returned (.tuple #[.int .i64 2, .int .i64 0]) ∧ Below w.heap.size w w' := by
  have hr := h.r
  rw [hlo, hhi] at hr
  have bg : ∀ w', Below w.heap.size w w' → Calls Tryz.prog 45 #[vv1 b, .int .i64 10] w' fun e w'' => e = .returned (.int .i64 10) ∧ Below w'.heap.size w' w'' := fun w' hb => by
    have q := vbegin (hr.up hb) 8 10 (by omega) (by omega) (by omega); rw [li_b10] at q; exact q
  have en : ∀ w', Below w.heap.size w w' → Calls Tryz.prog 49 #[vv1 b, .int .i64 1] w' fun e w'' => e = .returned (.int .i64 9) ∧ Below w'.heap.size w' w'' := fun w' hb => by
    have q := vend (hr.up hb) 8 1 (by omega) (by omega); rw [li_e1] at q; exact q
  have co : ∀ w', Below w.heap.size w w' → Calls Tryz.prog 47 #[vv1 b, .int .i64 1] w' fun e w'' => e = .returned (.int .i64 0) ∧ Below w'.heap.size w' w'' := fun w' hb => by
    have q := vcolumn (hr.up hb) 8 1 (by omega) (by omega) (by omega) (by omega); rw [li_b1, li_c1] at q; exact q
  have t1 : ∀ w', Below w.heap.size w w' → Calls Tryz.prog 22 #[pAt b, .int .i64 1, .int .i64 10] w' fun e w'' => e = .returned (.tuple #[.string ⟨#[40, 108, 101, 116, 32, 40, 120, 41, 10]⟩, .int .i64 0]) ∧ Below w'.heap.size w' w'' := fun w' hb => by
    have q := bText_ok (h.up hb) 1 10 (by omega) (by omega) (by omega); rw [li_pre] at q; exact q
  have t2 : ∀ w', Below w.heap.size w w' → Calls Tryz.prog 22 #[pAt b, .int .i64 2, .int .i64 5] w' fun e w'' => e = .returned (.tuple #[.string ⟨#[108, 101, 116]⟩, .int .i64 0]) ∧ Below w'.heap.size w' w'' := fun w' hb => by
    have q := bText_ok (h.up hb) 2 5 (by omega) (by omega) (by omega); rw [li_let] at q; exact q
  have ch : ∀ w', Below w.heap.size w w' → ∀ k : Nat, 1 ≤ k → k ≤ 10 → Calls Tryz.prog 50 #[pAt b, .int .i64 k] w' fun e w'' => e = .returned (.tuple #[.int .i64 (chr liC k : Nat), .bool true]) ∧ Below w'.heap.size w' w'' := fun w' hb k h1 h2 => bchar (hr.up hb) k h1 (Nat.le_trans h2 (by decide))
  have lk : ∀ w' gg, Below w.heap.size w w' → w'.cell? ⟨gg, 0, none⟩ = some (.int .i64 10) → Calls Tryz.prog 43 #[pAt b, .int .i64 8, .bool true, .slice (some ⟨gg, 0, none⟩) 1 1] w' fun e w'' => e = .returned (.tuple #[vv1 b, .int .i64 0]) ∧ Below w'.heap.size w' w'' := fun w' gg hb hx => look_ok (hr.up hb) 8 10 gg 1 hx (by omega) (by omega)
  have ov : ∀ w', Below w.heap.size w w' → Calls Tryz.prog 14 #[pAt tb, .string ⟨#[40, 108, 101, 116, 32, 40, 120, 41, 10]⟩, .int .i64 0, .int .i64 9, .agg (stC (.slice none 0 0) 0 0 0 false false)] w' fun e w'' => ∃ g o cap, e = .returned (.tuple #[.agg (stC (.slice (some ⟨g, o, none⟩) 1 cap) 0 0 0 false false), .int .i64 0]) ∧ w''.cell? ⟨g, o, none⟩ = some (.int .i64 0) ∧ Below w'.heap.size w' w'' := fun w' hb => by
    have q := over_ok (hT.up hb) (hL.up hb) ⟨#[40, 108, 101, 116, 32, 40, 120, 41, 10]⟩ (by decide) li_val 9 (by decide)
    rw [li_chrs, li_ov] at q
    refine q.mono ?_
    rintro e w'' ⟨v, rfl, hown, hb'⟩
    obtain ⟨A, cap, rfl, _, _, hRS⟩ := hown.shape eltI
    obtain ⟨g, o, rfl, _, hc⟩ := hRS (by simp)
    exact ⟨g, o, cap, rfl, hc 0 _ rfl, hb'⟩
  have rl : ∀ w', Below w.heap.size w w' → Calls Tryz.prog 46 #[.string ⟨#[40, 108, 101, 116, 32, 40, 120, 41, 10]⟩] w' fun e w'' => e = .returned (.int .i64 9) ∧ Below w'.heap.size w' w'' := fun w' hb => by
    have q := runesLen ⟨#[40, 108, 101, 116, 32, 40, 120, 41, 10]⟩ w' (by decide) (hT.up hb); rw [li_len] at q; exact q
  have cl : ∀ w', Below w.heap.size w w' → ∀ k : Nat, 1 ≤ k → k ≤ 10 → Calls Tryz.prog 51 #[pAt tb, .int .i64 (chr liC k : Nat)] w' fun e w'' => e = .returned (.int .i64 (lispC (chr liC k))) ∧ Below w'.heap.size w' w'' := fun w' hb k h1 h2 => class_ok (hL.up hb) _ (chr_isN hr k h1 (Nat.le_trans h2 (by decide)))
  have cc : ∀ z c q : Int, (z = 2 ∧ c = 108 ∧ q = 1) ∨ (z = 3 ∧ c = 101 ∧ q = 1) ∨ (z = 4 ∧ c = 116 ∧ q = 1) ∨ (z = 5 ∧ c = 32 ∧ q = 3) → (∀ w', Below w.heap.size w w' → Calls Tryz.prog 50 #[pAt b, .int .i64 z] w' fun e w'' => e = .returned (.tuple #[.int .i64 c, .bool true]) ∧ Below w'.heap.size w' w'') ∧ (∀ w', Below w.heap.size w w' → Calls Tryz.prog 51 #[pAt tb, .int .i64 c] w' fun e w'' => e = .returned (.int .i64 q) ∧ Below w'.heap.size w' w'') := by
    rintro z c q (⟨rfl, rfl, rfl⟩ | ⟨rfl, rfl, rfl⟩ | ⟨rfl, rfl, rfl⟩ | ⟨rfl, rfl, rfl⟩)
    · refine ⟨fun w' hb => ?_, fun w' hb => ?_⟩
      · have q := ch w' hb 2 (by omega) (by omega); rw [show chr liC 2 = 108 by decide] at q; exact q
      · have q := cl w' hb 2 (by omega) (by omega); rw [show chr liC 2 = 108 by decide, show lispC 108 = 1 by decide] at q; exact q
    · refine ⟨fun w' hb => ?_, fun w' hb => ?_⟩
      · have q := ch w' hb 3 (by omega) (by omega); rw [show chr liC 3 = 101 by decide] at q; exact q
      · have q := cl w' hb 3 (by omega) (by omega); rw [show chr liC 3 = 101 by decide, show lispC 101 = 1 by decide] at q; exact q
    · refine ⟨fun w' hb => ?_, fun w' hb => ?_⟩
      · have q := ch w' hb 4 (by omega) (by omega); rw [show chr liC 4 = 116 by decide] at q; exact q
      · have q := cl w' hb 4 (by omega) (by omega); rw [show chr liC 4 = 116 by decide, show lispC 116 = 1 by decide] at q; exact q
    · refine ⟨fun w' hb => ?_, fun w' hb => ?_⟩
      · have q := ch w' hb 5 (by omega) (by omega); rw [show chr liC 5 = 32 by decide] at q; exact q
      · have q := cl w' hb 5 (by omega) (by omega); rw [show chr liC 5 = 32 by decide, show lispC 32 = 3 by decide] at q; exact q
  have BG := Lib.hid bg
  have EN := Lib.hid en
  have CO := Lib.hid co
  have T1 := Lib.hid t1
  have T2 := Lib.hid t2
  have CC := Lib.hid cc
  have LK := Lib.hid lk
  have OV := Lib.hid ov
  have RL := Lib.hid rl
  have HL := Lib.hid hL
  clear bg en co t1 t2 cc ch lk ov rl cl hr h hT hL hlo hhi
  go_enter Tryz.func12, Tryz.ntmps12
  go_wp2_with fail
  refine (tcopy_ok HL.out).mono ?_
  rintro e w1 ⟨k, rfl, hb1⟩
  have B1 := Lib.hid hb1
  clear hb1
  go_wp2_with fail
  refine (tabbed_ok 8 (by omega) (by omega) w1).mono ?_
  rintro e w2 ⟨rfl, rfl⟩
  go_wp2_with fail
  have HB0 := Lib.hid (up2 B1.out (below1 w1 (.cells #[.int .i64 10] 3)))
  have hc := (MapKept.heap_alloc w1 (.cells #[.int .i64 10] 3)).1
  generalize w1.alloc (.cells #[.int .i64 10] 3) = W at *
  refine (LK.out W _ HB0.out (by simp only [World.cell?, hc]; rfl)).mono ?_
  rintro e w2 ⟨rfl, hb2⟩
  have B2 := Lib.hid (up2 HB0.out hb2)
  clear hb2 hc HB0
  go_wp2_with fail
  have hB3 := below1 w2 (.cells #[.pointer (some ⟨b, 0, none⟩), .int .i64 1, .int .i64 12, .int .i64 8] 83)
  have hv := VwI.made w2 b 1 12 8 (T := 83)
  have B3 := Lib.hid (up2 B2.out hB3)
  have hvk : w2.heap.size < (w2.alloc (.cells #[.pointer (some ⟨b, 0, none⟩), .int .i64 1, .int .i64 12, .int .i64 8] 83)).heap.size := by simp
  change VwI (w2.alloc (.cells #[.pointer (some ⟨b, 0, none⟩), .int .i64 1, .int .i64 12, .int .i64 8] 83)) w2.heap.size b 1 12 8 at hv
  generalize w2.alloc (.cells #[.pointer (some ⟨b, 0, none⟩), .int .i64 1, .int .i64 12, .int .i64 8] 83) = W3 at *
  clear hB3
  have HV := Lib.hid hv
  have v0 := fun (x : UpW W3.heap.size W3) => (hv.up x.up).c0
  have v1 : ∀ (x : UpW W3.heap.size W3), x.w.cell? ⟨w2.heap.size, 1, none⟩ = some (.int .i64 1) := fun x => (hv.up x.up).c1
  have v2 : ∀ (x : UpW W3.heap.size W3), x.w.cell? ⟨w2.heap.size, 2, none⟩ = some (.int .i64 12) := fun x => (hv.up x.up).c2
  have v3 : ∀ (x : UpW W3.heap.size W3), x.w.cell? ⟨w2.heap.size, 3, none⟩ = some (.int .i64 8) := fun x => (hv.up x.up).c3
  clear hv
  refine wp_region_up W3.heap.size (by kernel_rfl) (by kernel_rfl) ?_
  repeat (go_big_quiet_step (first | exact Calls.up ‹_› (Nat.le_refl _) (BG.out _ (up2 B3.out (UpW.up ‹_›))) | exact Calls.up ‹_› (Nat.le_refl _) (T1.out _ (up2 B3.out (UpW.up ‹_›)))))
  refine wpQuiet_nil ?_
  rintro ⟨w4, hb4⟩
  dsimp only
  clear v0 v1 v2 v3
  have B4 := Lib.hid (up2 B3.out hb4)
  have V4 := Lib.hid (HV.out.up hb4)
  clear HV hb4
  go_wp2_with fail
  refine (RL.out w4 B4.out).mono ?_
  rintro e w5 ⟨rfl, hb5⟩
  have B5 := Lib.hid (up2 B4.out hb5)
  have V5 := Lib.hid (V4.out.up hb5)
  clear hb5 V4 B4
  go_wp2_with fail
  refine (OV.out w5 B5.out).mono ?_
  rintro e w6 ⟨gA, oA, cap, rfl, hA, hb6⟩
  have hAl := lt_of_cell hA
  have B6 := Lib.hid (up2 B5.out hb6)
  have V6 := Lib.hid (V5.out.up hb6)
  clear hb6 V5 B5
  go_wp2_with fail
  have hk7 := Blk.made w6 37 (stC (.slice (some ⟨gA, oA, none⟩) 1 cap) 0 0 0 false false)
  have hB7 := below1 w6 (.cells (stC (.slice (some ⟨gA, oA, none⟩) 1 cap) 0 0 0 false false) 37)
  have hA7 := cell_up hA hB7
  have V7 := Lib.hid (V6.out.up hB7)
  have B7 := Lib.hid (up2 B6.out hB7)
  generalize w6.alloc (.cells (stC (.slice (some ⟨gA, oA, none⟩) 1 cap) 0 0 0 false false) 37) = W7 at *
  have c0 := hk7.cell (j := 0) rfl
  have c2 := hk7.cell (j := 2) rfl
  go_wp2_with fail
  have x0 : ∀ (x : UpW W7.heap.size W7), x.w.cell? ⟨w6.heap.size, 0, none⟩ = some (.slice (some ⟨gA, oA, none⟩) 1 cap) := fun x => (hk7.up x.up).cell (j := 0) rfl
  have x1 : ∀ (x : UpW W7.heap.size W7), x.w.cell? ⟨w2.heap.size, 1, none⟩ = some (.int .i64 1) := fun x => (V7.out.up x.up).c1
  have x2 : ∀ (x : UpW W7.heap.size W7), x.w.cell? ⟨gA, oA, none⟩ = some (.int .i64 0) := fun x => cell_up hA7 x.up
  refine wp_region_up W7.heap.size (by kernel_rfl) (by kernel_rfl) ?_
  repeat (go_big_quiet_step (fail))
  refine wpQuiet_nil ?_
  rintro ⟨w8, hb8⟩
  dsimp only
  have V8 := Lib.hid (V7.out.up hb8)
  have B8 := Lib.hid (up2 B7.out hb8)
  clear x0 x1 x2 hb8 c0 c2 hk7 hA7 V7 V6 B7 B6
  go_wp2_with fail
  have v0 := fun (x : UpW w8.heap.size w8) => (V8.out.up x.up).c0
  have v1 : ∀ (x : UpW w8.heap.size w8), x.w.cell? ⟨w2.heap.size, 1, none⟩ = some (.int .i64 1) := fun x => (V8.out.up x.up).c1
  have v2 : ∀ (x : UpW w8.heap.size w8), x.w.cell? ⟨w2.heap.size, 2, none⟩ = some (.int .i64 12) := fun x => (V8.out.up x.up).c2
  have v3 : ∀ (x : UpW w8.heap.size w8), x.w.cell? ⟨w2.heap.size, 3, none⟩ = some (.int .i64 8) := fun x => (V8.out.up x.up).c3
  refine wp_region_up w8.heap.size (by kernel_rfl) (by kernel_rfl) ?_
  repeat (go_big_quiet_step (first | exact Calls.up ‹_› (Nat.le_refl _) (CO.out _ (up2 B8.out (UpW.up ‹_›))) | exact Calls.up ‹_› (Nat.le_refl _) (EN.out _ (up2 B8.out (UpW.up ‹_›)))))
  refine wpQuiet_nil ?_
  rintro ⟨w9, hb9⟩
  dsimp only
  clear v0 v1 v2 v3
  have B9 := Lib.hid (up2 B8.out hb9)
  clear hb9 B8 V8
  go_wp2_with fail
  go_loopw [18, 19, 20, 21] (fun va vb vc vd wr => ∃ z : Int, (z = 2 ∨ z = 3 ∨ z = 4 ∨ z = 5) ∧ va = .int .i64 z ∧ Below w.heap.size w wr) (fun va _ _ _ _ => 10 - (intOf va).toNat)
  case atStart => exact ⟨2, .inl rfl, rfl, B9.out⟩
  case round =>
    obtain ⟨z, hz, rfl, hbw⟩ := hrel
    have HBW := Lib.hid hbw
    clear hbw
    rcases hz with rfl | rfl | rfl | rfl
    · obtain ⟨e1, e2⟩ := CC.out 2 108 1 (.inl ⟨rfl, rfl, rfl⟩)
      have E1 := Lib.hid e1
      have E2 := Lib.hid e2
      clear e1 e2
      go_wp2_with fail
      refine (E1.out _ HBW.out).mono ?_
      rintro e u1 ⟨rfl, hu1⟩
      have U1 := Lib.hid (up2 HBW.out hu1)
      clear hu1
      go_wp2_with fail
      refine (E2.out _ U1.out).mono ?_
      rintro e u2 ⟨rfl, hu2⟩
      have U2 := Lib.hid (up2 U1.out hu2)
      clear hu2
      go_wp2_with fail
      refine ⟨⟨3, .inr (.inl rfl), rfl, U2.out⟩, ?_⟩
      simp [intOf]
    · obtain ⟨e1, e2⟩ := CC.out 3 101 1 (.inr (.inl ⟨rfl, rfl, rfl⟩))
      have E1 := Lib.hid e1
      have E2 := Lib.hid e2
      clear e1 e2
      go_wp2_with fail
      refine (E1.out _ HBW.out).mono ?_
      rintro e u1 ⟨rfl, hu1⟩
      have U1 := Lib.hid (up2 HBW.out hu1)
      clear hu1
      go_wp2_with fail
      refine (E2.out _ U1.out).mono ?_
      rintro e u2 ⟨rfl, hu2⟩
      have U2 := Lib.hid (up2 U1.out hu2)
      clear hu2
      go_wp2_with fail
      refine ⟨⟨4, .inr (.inr (.inl rfl)), rfl, U2.out⟩, ?_⟩
      simp [intOf]
    · obtain ⟨e1, e2⟩ := CC.out 4 116 1 (.inr (.inr (.inl ⟨rfl, rfl, rfl⟩)))
      have E1 := Lib.hid e1
      have E2 := Lib.hid e2
      clear e1 e2
      go_wp2_with fail
      refine (E1.out _ HBW.out).mono ?_
      rintro e u1 ⟨rfl, hu1⟩
      have U1 := Lib.hid (up2 HBW.out hu1)
      clear hu1
      go_wp2_with fail
      refine (E2.out _ U1.out).mono ?_
      rintro e u2 ⟨rfl, hu2⟩
      have U2 := Lib.hid (up2 U1.out hu2)
      clear hu2
      go_wp2_with fail
      refine ⟨⟨5, .inr (.inr (.inr rfl)), rfl, U2.out⟩, ?_⟩
      simp [intOf]
    · obtain ⟨e1, e2⟩ := CC.out 5 32 3 (.inr (.inr (.inr ⟨rfl, rfl, rfl⟩)))
      have E1 := Lib.hid e1
      have E2 := Lib.hid e2
      clear e1 e2
      go_wp2_with fail
      refine (E1.out _ HBW.out).mono ?_
      rintro e u1 ⟨rfl, hu1⟩
      have U1 := Lib.hid (up2 HBW.out hu1)
      clear hu1
      go_wp2_with fail
      refine (E2.out _ U1.out).mono ?_
      rintro e u2 ⟨rfl, hu2⟩
      have U2 := Lib.hid (up2 U1.out hu2)
      clear hu2
      go_wp2_with fail
      refine (T2.out _ U2.out).mono ?_
      rintro e u3 ⟨rfl, hu3⟩
      have U3 := Lib.hid (up2 U2.out hu3)
      clear hu3
      go_wp2_with fail
      refine (body_ok _).mono ?_
      rintro e u4 ⟨rfl, rfl⟩
      go_wp2_with fail
      go_ret2
      exact ⟨rfl, U3.out⟩
end
end Go.Proofs.YtphdkcdkhklicaaGreatDoor
/- copyistlaw24: lives. -/
namespace Go.Proofs.YtphdkcdkhklicaaGreatDoor
open Go.RowKit
set_option linter.unusedVariables false
set_option linter.unusedSimpArgs false
section
variable {w w' : World}
theorem lv_a : chrs ⟨#[97, 9, 98]⟩ = [97, 9, 98] := by decide
theorem lv_b : chrs ⟨#[40, 108, 101, 116, 32, 40, 120, 41, 10, 121, 41]⟩ = liC := by decide
theorem lv_c : colN widN [97, 9, 98] 8 (lineB [97, 9, 98] 1 3) 3 = 8 := by decide
theorem lv_s : seekN widN [97, 9, 98] 8 (lineB [97, 9, 98] 1 1) (lineE [97, 9, 98] 4 1) 5 = 3 := by decide
theorem lv_t : colN widN [97, 9, 98] 8 (lineB [97, 9, 98] 1 1) 3 = 8 := by decide
set_option maxHeartbeats 4000000 in
theorem lives_true {N : Nat} (hT : Tabs N w) (hR : Rules N w) (hN : N ≤ w.heap.size) :
    Calls Tryz.prog 6 #[] w fun r w' => r = .returned (.bool true) ∧ Below w.heap.size w w' := by
  have HT := Lib.hid hT
  have HR := Lib.hid hR
  clear hT hR
  go_enter Tryz.func6, Tryz.ntmps6
  go_wp2_with fail
  have h1 := of_ok HT.out HR.out hN ⟨#[97, 9, 98]⟩ (by decide) (by decide)
  rw [lv_a] at h1
  refine h1.mono ?_
  rintro e w1 ⟨b, g, S, rfl, hb1, hbt, hlo, hhi, hpt, hx1, hx2, hx3⟩
  have hr := hbt.r
  rw [hlo, hhi] at hr
  have cq : ∀ w', Below w1.heap.size w1 w' → Calls Tryz.prog 16 #[pAt b, .int .i64 3, .int .i64 8] w' fun e w'' => e = .returned (.tuple #[.int .i64 8, .int .i64 0]) ∧ Below w'.heap.size w' w'' := fun w' hb => by
    have q := column_ok (hr.up hb) 3 8 (by omega) (by omega) (by omega) (by simp)
    rw [lv_c] at q; exact q
  have sq : ∀ w', Below w1.heap.size w1 w' → Calls Tryz.prog 31 #[pAt b, .int .i64 1, .int .i64 5, .int .i64 8] w' fun e w'' => e = .returned (.tuple #[.int .i64 3, .int .i64 8, .int .i64 0]) ∧ Below w'.heap.size w' w'' := fun w' hb => by
    have q := seek_ok (hr.up hb) 1 8 5 (by omega) (by omega) (by omega) (by simp)
    rw [show 1 + [97, 9, 98].length = 4 from rfl, lv_s, lv_t] at q; exact q
  have CQ := Lib.hid cq
  have SQ := Lib.hid sq
  have B1 := Lib.hid hb1
  have z1 := hb1.size
  clear cq sq hr hbt hlo hhi hpt hx1 hx2 hx3 hb1 h1
  go_wp2_with fail
  have h1 := of_ok ((HT.out.up B1.out).low hN) ((HR.out.up B1.out).low hN) (by omega) ⟨#[40, 108, 101, 116, 32, 40, 120, 41, 10, 121, 41]⟩ (by decide) (by decide)
  rw [lv_b] at h1
  refine h1.mono ?_
  rintro e w2 ⟨c, g2, S2, rfl, hb2, hbt, hlo, hhi, hpt, hx1, hx2, hx3⟩
  have T2 := Lib.hid ((HT.out.up B1.out).up hb2)
  have H2 := Lib.hid hbt
  have L2 := Lib.hid hlo
  have I2 := Lib.hid hhi
  have B2 := Lib.hid hb2
  clear hbt hlo hhi hpt hx1 hx2 hx3 hb2 h1 z1
  go_wp2_with fail
  refine (CQ.out w2 B2.out).mono ?_
  rintro e w3 ⟨rfl, hb3⟩
  have B3 := Lib.hid hb3
  clear hb3
  go_wp2_with fail
  refine (SQ.out w3 (up2 B2.out B3.out)).mono ?_
  rintro e w4 ⟨rfl, hb4⟩
  have B4 := Lib.hid (up2 B3.out hb4)
  clear hb4
  go_wp2_with fail
  refine (synLisp w4).mono ?_
  rintro e w5 ⟨tb, bs, ms, mo, rfl, hb5, hl5⟩
  have B5 := Lib.hid (up2 B4.out hb5)
  have HL := Lib.hid hl5
  clear hb5 hl5
  go_wp2_with fail
  refine (lisp_ok (T2.out.up B5.out) HL.out (H2.out.up B5.out) L2.out I2.out).mono ?_
  rintro e w6 ⟨rfl, hb6⟩
  have B6 := Lib.hid (up2 B5.out hb6)
  clear hb6
  go_wp2_with fail
  go_ret
  exact ⟨rfl, up2 B1.out (up2 B2.out B6.out)⟩
end
end Go.Proofs.YtphdkcdkhklicaaGreatDoor
