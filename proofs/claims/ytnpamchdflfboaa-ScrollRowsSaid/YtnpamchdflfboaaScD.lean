/- scroll.Keep: what it hands back. -/
import Derived.Test.YtnpamchdflfboaaScC
import Derived.Deep.RegionHeld3
namespace Go.Proofs.Ytnpamchdflfboaa
open Go.RowKit Go.Shelf
set_option linter.unusedVariables false

/-- How many distances Keep tries. -/
def tries (rows step : Int) : Nat := (min step (rows - 1) + 1).toNat
def seekK (rows height start row margin step : Int) : Option (RI rows) := (nearTo rows (clampI start 0 (rows - 1)) (tries rows step)).find? (fun x => wellI rows height row margin x.1)
/-- What Keep hands back. -/
def keepN (rows height start row margin step : Int) : Int := match seekK rows height start row margin step with
  | some x => x.1
  | none => max 0 (row - height / 2)
def keepOk (rows height row step : Int) : Bool := validI rows height && hasI rows row && decide (1 ≤ step)

theorem validI_true {rows height : Int} (h : validI rows height = true) : 1 ≤ rows ∧ rows ≤ 100000 ∧ 1 ≤ height ∧ height ≤ 200 := by simpa [validI] using h
theorem hasI_true {rows r : Int} (h : hasI rows r = true) : 0 ≤ r ∧ r < rows := by simpa [hasI] using h

theorem ret_two {a b : Int} {v : Value} (h : a = b) : Ending.returned (.tuple #[.int .i64 a, v]) = .returned (.tuple #[.int .i64 b, v]) := by rw [h]
theorem new4 (w : World) (a b c d : Value) (t : TypeId) : (w.alloc (.cells #[a, b, c, d] t)).cell? ⟨w.heap.size, 0, none⟩ = some a ∧ (w.alloc (.cells #[a, b, c, d] t)).cell? ⟨w.heap.size, 1, none⟩ = some b ∧ (w.alloc (.cells #[a, b, c, d] t)).cell? ⟨w.heap.size, 2, none⟩ = some c ∧ (w.alloc (.cells #[a, b, c, d] t)).cell? ⟨w.heap.size, 3, none⟩ = some d := by
  have h := World.alloc_heap_new w (.cells #[a, b, c, d] t)
  refine ⟨?_, ?_, ?_, ?_⟩ <;> (simp only [World.cell?, h]; rfl)
theorem four_kept {w w' : World} {b B : Nat} {x0 x1 x2 x3 : Value} (h : w.cell? ⟨b, 0, none⟩ = some x0 ∧ w.cell? ⟨b, 1, none⟩ = some x1 ∧ w.cell? ⟨b, 2, none⟩ = some x2 ∧ w.cell? ⟨b, 3, none⟩ = some x3) (hb : Below B w w') (hB : b < B) :
    w'.cell? ⟨b, 0, none⟩ = some x0 ∧ w'.cell? ⟨b, 1, none⟩ = some x1 ∧ w'.cell? ⟨b, 2, none⟩ = some x2 ∧ w'.cell? ⟨b, 3, none⟩ = some x3 :=
  ⟨(hb.cell (p := ⟨b, 0, none⟩) hB).trans h.1, (hb.cell (p := ⟨b, 1, none⟩) hB).trans h.2.1, (hb.cell (p := ⟨b, 2, none⟩) hB).trans h.2.2.1, (hb.cell (p := ⟨b, 3, none⟩) hB).trans h.2.2.2⟩

set_option maxRecDepth 100000 in
set_option maxHeartbeats 1000000 in
theorem keep_no (rows height start row margin step : Int) (w : World) (h : keepOk rows height row step = false) :
    Calls Try.prog 9 #[.int .i64 rows, .int .i64 height, .int .i64 start, .int .i64 row, .int .i64 margin, .int .i64 step] w
      fun e w' => e = .returned (.tuple #[.int .i64 0, .int .i64 3]) ∧ Below w.heap.size w w' := by
  by_cases hv : validI rows height = true
  · by_cases hh : hasI rows row = true
    · have hs : step < 1 := by simp [keepOk, hv, hh] at h; omega
      clear h
      have hB0 : Below w.heap.size w (w.alloc (.cells #[.int .i64 rows, .int .i64 height, .int .i64 row, .int .i64 margin] 49)) := (Below.refl _ w).alloc (Nat.le_refl _) _
      go_enter Try.func9, Try.ntmps9
      go_wp2_with fail
      refine (valid_any rows height row margin _).mono ?_
      rintro e w1 ⟨rfl, hb1⟩
      obtain ⟨v0, v1, v2, v3⟩ := four_kept (new4 w (.int .i64 rows) (.int .i64 height) (.int .i64 row) (.int .i64 margin) 49) hb1 (by simp)
      go_wp2_with fail
      refine (has_any rows height row margin row w1).mono ?_
      rintro e w2 ⟨rfl, hb2⟩
      go_wp2
      go_ret2
      exact ⟨rfl, (hB0.trans (hb1.mono (by simp))).trans (hb2.mono (by have := hb1.size; simp at this; omega))⟩
    · have hh' : hasI rows row = false := by simpa using hh
      clear h hh
      have hB0 : Below w.heap.size w (w.alloc (.cells #[.int .i64 rows, .int .i64 height, .int .i64 row, .int .i64 margin] 49)) := (Below.refl _ w).alloc (Nat.le_refl _) _
      go_enter Try.func9, Try.ntmps9
      go_wp2_with fail
      refine (valid_any rows height row margin _).mono ?_
      rintro e w1 ⟨rfl, hb1⟩
      obtain ⟨v0, v1, v2, v3⟩ := four_kept (new4 w (.int .i64 rows) (.int .i64 height) (.int .i64 row) (.int .i64 margin) 49) hb1 (by simp)
      go_wp2_with fail
      refine (has_any rows height row margin row w1).mono ?_
      rintro e w2 ⟨rfl, hb2⟩
      go_wp2
      go_ret2
      exact ⟨rfl, (hB0.trans (hb1.mono (by simp))).trans (hb2.mono (by have := hb1.size; simp at this; omega))⟩
  · have hv' : validI rows height = false := by simpa using hv
    clear h hv
    have hB0 : Below w.heap.size w (w.alloc (.cells #[.int .i64 rows, .int .i64 height, .int .i64 row, .int .i64 margin] 49)) := (Below.refl _ w).alloc (Nat.le_refl _) _
    go_enter Try.func9, Try.ntmps9
    go_wp2_with fail
    refine (valid_any rows height row margin _).mono ?_
    rintro e w1 ⟨rfl, hb1⟩
    go_wp2
    go_ret2
    exact ⟨rfl, hB0.trans (hb1.mono (by simp))⟩

/-- The world behind view.near: three new boxes. -/
structure NearAt (w w' : World) (rows height row margin start step : Int) : Prop where
  below : Below w.heap.size w w'
  view : w'.cell? ⟨w.heap.size, 0, none⟩ = some (.int .i64 rows) ∧ w'.cell? ⟨w.heap.size, 1, none⟩ = some (.int .i64 height) ∧ w'.cell? ⟨w.heap.size, 2, none⟩ = some (.int .i64 row) ∧ w'.cell? ⟨w.heap.size, 3, none⟩ = some (.int .i64 margin)
  start : w'.cell? ⟨w.heap.size + 1, 0, none⟩ = some (.int .i64 start)
  step : w'.cell? ⟨w.heap.size + 2, 0, none⟩ = some (.int .i64 step)
theorem near_at (rows height row margin start step : Int) (w : World) :
    Calls Try.prog 32 #[viewV rows height row margin, .int .i64 start, .int .i64 step] w fun e w' => e = .returned (.func (.func 44) #[] #[.pointer (some ⟨w.heap.size + 2, 0, none⟩), .pointer (some ⟨w.heap.size, 0, none⟩), .pointer (some ⟨w.heap.size + 1, 0, none⟩)]) ∧ NearAt w w' rows height row margin start step := by
  refine (near_any rows height row margin start step w).mono ?_
  rintro e w' ⟨rfl, rfl⟩
  have h4 := new4 w (.int .i64 rows) (.int .i64 height) (.int .i64 row) (.int .i64 margin) 49
  have hs := cell_new_l (w.alloc (.cells #[.int .i64 rows, .int .i64 height, .int .i64 row, .int .i64 margin] 49)) (.int .i64 start) 3
  have ht := cell_new_l ((w.alloc (.cells #[.int .i64 rows, .int .i64 height, .int .i64 row, .int .i64 margin] 49)).alloc (.cells #[.int .i64 start] 3)) (.int .i64 step) 3
  simp only [World.size_alloc] at hs ht
  exact ⟨rfl, (((Below.refl _ w).alloc (Nat.le_refl _) _).alloc (by simp) _).alloc (by simp; omega) _, ⟨cell_alloc_l _ (cell_alloc_l _ h4.1), cell_alloc_l _ (cell_alloc_l _ h4.2.1), cell_alloc_l _ (cell_alloc_l _ h4.2.2.1), cell_alloc_l _ (cell_alloc_l _ h4.2.2.2)⟩, cell_alloc_l _ hs.1, ht.1⟩

theorem find_near (rows height row margin start step : Int) (h1 : 1 ≤ rows) (h2 : rows ≤ 100000) (h3 : 1 ≤ height) (h4 : height ≤ 200) (hs0 : 0 ≤ start) (hs1 : start < rows) (hst : 1 ≤ step) {w0 w : World} (hN : NearAt w0 w rows height row margin start step) (r : Int) (b : Bool) (hf : Hid (foundI (wellI rows height row margin) (nearTo rows start (tries rows step)) = .tuple #[.int .i64 r, .bool b])) :
    Calls Try.prog 31 #[.func (.func 44) #[] #[.pointer (some ⟨w0.heap.size + 2, 0, none⟩), .pointer (some ⟨w0.heap.size, 0, none⟩), .pointer (some ⟨w0.heap.size + 1, 0, none⟩)], .func (.func 34) #[viewV rows height row margin] #[]] w
      fun e w' => e = .returned (.tuple #[.int .i64 r, .bool b]) ∧ Below w.heap.size w w' := by
  rw [← hf.out]; exact
  callsIn_wide.1 (find_in w0.heap.size (w0.heap.size + 1) (w0.heap.size + 2) rows height row margin start step (tries rows step) h1 h2 h3 h4 hs0 hs1 hst (by unfold tries; omega) w
    (lt_of_cell hN.view.1) (lt_of_cell hN.start) (lt_of_cell hN.step) hN.view.1 hN.view.2.1 hN.view.2.2.1 hN.view.2.2.2 hN.start hN.step)

set_option maxRecDepth 100000 in
set_option maxHeartbeats 2000000 in
theorem keep_yes (rows height start row margin step : Int) (w : World) (h : keepOk rows height row step = true) :
    Calls Try.prog 9 #[.int .i64 rows, .int .i64 height, .int .i64 start, .int .i64 row, .int .i64 margin, .int .i64 step] w
      fun e w' => e = .returned (.tuple #[.int .i64 (keepN rows height start row margin step), .int .i64 0]) ∧ Below w.heap.size w w' := by
  have hv : validI rows height = true := by simp [keepOk] at h; exact h.1.1
  have hh : hasI rows row = true := by simp [keepOk] at h; exact h.1.2
  have hs : 1 ≤ step := by simp [keepOk] at h; exact h.2
  clear h
  obtain ⟨q1, q2, q3, q4⟩ := validI_true hv
  obtain ⟨q5, q6⟩ := hasI_true hh
  have hB0 : Below w.heap.size w (w.alloc (.cells #[.int .i64 rows, .int .i64 height, .int .i64 row, .int .i64 margin] 49)) := (Below.refl _ w).alloc (Nat.le_refl _) _
  go_enter Try.func9, Try.ntmps9
  go_wp2_with fail
  refine (valid_any rows height row margin _).mono ?_
  rintro e w1 ⟨rfl, hb1⟩
  obtain ⟨v0, v1, v2, v3⟩ := four_kept (new4 w (.int .i64 rows) (.int .i64 height) (.int .i64 row) (.int .i64 margin) 49) hb1 (by simp)
  go_wp2_with fail
  refine (has_any rows height row margin row w1).mono ?_
  rintro e w2 ⟨rfl, hb2⟩
  obtain ⟨u0, u1, u2, u3⟩ := four_kept ⟨v0, v1, v2, v3⟩ hb2 (by have := hb1.size; simp at this; omega)
  have hB2 : Below w.heap.size w w2 := (hB0.trans (hb1.mono (by simp))).trans (hb2.mono (by have := hb1.size; simp at this; omega))
  have hz2 : w.heap.size < w2.heap.size := by have := hb1.size; have := hb2.size; simp at *; omega
  clear v0 v1 v2 v3 hb1 hb2 hB0
  have hc0 : 0 ≤ clampI start 0 (rows - 1) := by unfold clampI; omega
  have hc1 : clampI start 0 (rows - 1) < rows := by unfold clampI; omega
  have hwr : IntKind.i64.wrap (rows - 1) = rows - 1 := IntWalk.i64_in _ (by omega)
  cases hk : seekK rows height start row margin step with
  | some x =>
    have hf : foundI (wellI rows height row margin) (nearTo rows (clampI start 0 (rows - 1)) (tries rows step)) = .tuple #[.int .i64 x.1, .bool true] := by
      unfold foundI; unfold seekK at hk; rw [hk]
    have hkn : keepN rows height start row margin step = x.1 := by unfold keepN; rw [hk]
    have HF := Lib.hid hf
    have HK := Lib.hid hkn
    clear hf hk hkn
    go_wp2_with fail
    go_region_held3 (fun w' => w'.cell? ⟨w.heap.size, 0, none⟩ = some (.int .i64 rows) ∧ w'.cell? ⟨w.heap.size, 1, none⟩ = some (.int .i64 height) ∧ w'.cell? ⟨w.heap.size, 2, none⟩ = some (.int .i64 row) ∧ w'.cell? ⟨w.heap.size, 3, none⟩ = some (.int .i64 margin)) (first | go_keep | exact four_kept (w := w2.drew) ⟨u0, u1, u2, u3⟩ hN.below hz2 | exact four_kept (four_kept (w := w2.drew) ⟨u0, u1, u2, u3⟩ hN.below hz2) hF (Nat.lt_of_lt_of_le hz2 hN.below.size))
      (first | (go_at_call 33; refine (clamp_any _ _ _ _).mono ?_; rintro e w' ⟨rfl, rfl⟩) | (go_at_call 32; refine (near_at _ _ _ _ _ _ _).mono ?_; rintro e w' ⟨rfl, hN⟩) | (go_at_call 31; refine (find_near (w0 := w2.drew) _ _ _ _ _ _ q1 q2 q3 q4 hc0 hc1 hs hN _ _ HF).mono ?_; rintro e w' ⟨rfl, hF⟩))
    all_goals go_wp2
    all_goals go_ret2
    all_goals rw [HK.out]
    all_goals exact ⟨rfl, hB2.drew.trans ((hN.below.trans (hF.mono hN.below.size)).mono (Nat.le_of_lt hz2))⟩
  | none =>
    have hf : foundI (wellI rows height row margin) (nearTo rows (clampI start 0 (rows - 1)) (tries rows step)) = .tuple #[.int .i64 0, .bool false] := by
      unfold foundI; unfold seekK at hk; rw [hk]
    have hkn : keepN rows height start row margin step = max 0 (row - height / 2) := by unfold keepN; rw [hk]
    have HF := Lib.hid hf
    have HK := Lib.hid hkn
    clear hf hk hkn
    go_wp2_with fail
    go_region_held3 (fun w' => w'.cell? ⟨w.heap.size, 0, none⟩ = some (.int .i64 rows) ∧ w'.cell? ⟨w.heap.size, 1, none⟩ = some (.int .i64 height) ∧ w'.cell? ⟨w.heap.size, 2, none⟩ = some (.int .i64 row) ∧ w'.cell? ⟨w.heap.size, 3, none⟩ = some (.int .i64 margin)) (first | go_keep | exact four_kept (w := w2.drew) ⟨u0, u1, u2, u3⟩ hN.below hz2 | exact four_kept (four_kept (w := w2.drew) ⟨u0, u1, u2, u3⟩ hN.below hz2) hF (Nat.lt_of_lt_of_le hz2 hN.below.size))
      (first | (go_at_call 33; refine (clamp_any _ _ _ _).mono ?_; rintro e w' ⟨rfl, rfl⟩) | (go_at_call 32; refine (near_at _ _ _ _ _ _ _).mono ?_; rintro e w' ⟨rfl, hN⟩) | (go_at_call 31; refine (find_near (w0 := w2.drew) _ _ _ _ _ _ q1 q2 q3 q4 hc0 hc1 hs hN _ _ HF).mono ?_; rintro e w' ⟨rfl, hF⟩))
    all_goals go_wp2
    all_goals (
      go_ret2
      rw [HK.out]
      exact ⟨ret_two (by omega), hB2.drew.trans ((hN.below.trans (hF.mono hN.below.size)).mono (Nat.le_of_lt hz2))⟩)
end Go.Proofs.Ytnpamchdflfboaa
