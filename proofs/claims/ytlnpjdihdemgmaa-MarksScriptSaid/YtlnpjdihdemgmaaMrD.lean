/- The reference's Move, Set, Drop. -/
import Derived.Test.YtlnpjdihdemgmaaMrC
namespace Go.Proofs.Ytlnpjdihdemgmaa
open Go.RowKit
set_option linter.unusedVariables false
variable {B bo : Nat} {v : Value} {m : List (Int × Mk)} {n : Int} {w w' : World}

set_option maxRecDepth 100000 in
set_option maxHeartbeats 2000000 in
theorem rmove_all (h : RefAt B w bo v m n) (hnd : (m.map (·.1)).Nodup) (id a : Int) (hl : m.length ≤ 1000000) : Calls Try.prog 49 #[.pointer (some ⟨bo, 0, none⟩), .int .i64 id, .int .i64 a] w (RPost1 B w bo (moveR m n id a)) := by
  unfold moveR
  cases hx : lookM m id with
  | none =>
    dsimp only
    have H := Lib.hid h
    have HX := Lib.hid hx
    clear h hx
    go_enter Try.func49, Try.ntmps49
    go_wp2_with (go_at_call 53; refine (rfind_no H.out (idx_none HX.out) hl).mono ?_; rintro e w' ⟨rfl, rfl⟩)
    go_ret
    exact ⟨rfl, _, H.out, Only.refl _ _⟩
  | some x =>
    dsimp only
    obtain ⟨i, hi, hf⟩ := idx_some hnd hx
    have hil := (List.getElem?_eq_some_iff.1 hi).1
    obtain ⟨g, cap, rfl, hc1, hc2, hBg, hgl, hfz, hcs⟩ := h.own.lies eltK (by omega)
    have e0 := hcs i _ 1 _ hi rfl
    have z0 := hfz (i * 3 + 1) (by omega)
    have c0 := h.c0
    have hput := h.put hBg (y := (id, (a, x.2))) (j := 1) hi (by omega) rfl
    rw [set_at hnd hi] at hput
    have H := Lib.hid h
    have HI := Lib.hid hi
    have HF := Lib.hid hf
    have HP := Lib.hid hput
    have hil' : (i : Int) < m.length := by omega
    clear hi hf h hfz hcs hx hput hnd
    by_cases hp : placeI a = false
    · rw [if_pos hp]
      go_enter Try.func49, Try.ntmps49
      go_wp2_with (first | (go_at_call 53; refine (rfind_yes H.out HI.out HF.out hl).mono ?_; rintro e w' ⟨rfl, rfl⟩) | (go_at_call 61; refine (rplace_any _ _).mono ?_; rintro e w' ⟨rfl, rfl⟩))
      go_ret
      exact ⟨rfl, _, H.out, Only.refl _ _⟩
    · rw [if_neg hp]
      have hp' : placeI a = true := by simpa using hp
      clear hp
      go_enter Try.func49, Try.ntmps49
      go_wp2_with (first | (go_at_call 53; refine (rfind_yes H.out HI.out HF.out hl).mono ?_; rintro e w' ⟨rfl, rfl⟩) | (go_at_call 61; refine (rplace_any _ _).mono ?_; rintro e w' ⟨rfl, rfl⟩))
      go_ret
      exact ⟨rfl, _, HP.out, (Only.refl _ w).setCell (p := ⟨g, i * 3 + 1, none⟩) (.inr hBg) _⟩

set_option maxRecDepth 100000 in
set_option maxHeartbeats 2000000 in
theorem rset_all (h : RefAt B w bo v m n) (hnd : (m.map (·.1)).Nodup) (id : Int) (on : Bool) (hl : m.length ≤ 1000000) : Calls Try.prog 50 #[.pointer (some ⟨bo, 0, none⟩), .int .i64 id, .bool on] w (RPost1 B w bo (setR m n id on)) := by
  unfold setR
  cases hx : lookM m id with
  | none =>
    dsimp only
    have H := Lib.hid h
    have HX := Lib.hid hx
    clear h hx
    go_enter Try.func50, Try.ntmps50
    go_wp2_with (go_at_call 53; refine (rfind_no H.out (idx_none HX.out) hl).mono ?_; rintro e w' ⟨rfl, rfl⟩)
    go_ret
    exact ⟨rfl, _, H.out, Only.refl _ _⟩
  | some x =>
    dsimp only
    obtain ⟨i, hi, hf⟩ := idx_some hnd hx
    have hil := (List.getElem?_eq_some_iff.1 hi).1
    obtain ⟨g, cap, rfl, hc1, hc2, hBg, hgl, hfz, hcs⟩ := h.own.lies eltK (by omega)
    have e0 := hcs i _ 2 _ hi rfl
    have z0 := hfz (i * 3 + 2) (by omega)
    have c0 := h.c0
    have hput := h.put hBg (y := (id, (x.1, on))) (j := 2) hi (by omega) rfl
    rw [set_at hnd hi] at hput
    have H := Lib.hid h
    have HI := Lib.hid hi
    have HF := Lib.hid hf
    have HP := Lib.hid hput
    have hil' : (i : Int) < m.length := by omega
    clear hi hf h hfz hcs hx hput hnd
    go_enter Try.func50, Try.ntmps50
    go_wp2_with (first | (go_at_call 53; refine (rfind_yes H.out HI.out HF.out hl).mono ?_; rintro e w' ⟨rfl, rfl⟩) | (go_at_call 61; refine (rplace_any _ _).mono ?_; rintro e w' ⟨rfl, rfl⟩))
    go_ret
    exact ⟨rfl, _, HP.out, (Only.refl _ w).setCell (p := ⟨g, i * 3 + 2, none⟩) (.inr hBg) _⟩

set_option maxRecDepth 100000 in
set_option maxHeartbeats 800000 in
theorem rdrop_all (h : RefAt B w bo v m n) (hnd : (m.map (·.1)).Nodup) (id : Int) (hl : m.length ≤ 1000000) : Calls Try.prog 48 #[.pointer (some ⟨bo, 0, none⟩), .int .i64 id] w (RPost1 B w bo (dropR m n id)) := by
  unfold dropR
  cases hx : lookM m id with
  | none =>
    dsimp only
    have H := Lib.hid h
    have HX := Lib.hid hx
    clear h hx
    go_enter Try.func48, Try.ntmps48
    go_wp2_with (go_at_call 53; refine (rfind_no H.out (idx_none HX.out) hl).mono ?_; rintro e w' ⟨rfl, rfl⟩)
    go_ret
    exact ⟨rfl, _, H.out, Only.refl _ _⟩
  | some x =>
    dsimp only
    obtain ⟨i, hi, hf⟩ := idx_some hnd hx
    have hil := (List.getElem?_eq_some_iff.1 hi).1
    have hlo := h.lo
    have hle := h.le
    obtain ⟨A, cp, rfl, hA1, hA2, hAs⟩ := h.own.shape eltK
    unfold maxLen at hA2
    have hda := del_at hnd hi
    have hbe : Below w.heap.size w (w.alloc (.cells #[] 47)).drew := (below1 w _).drew
    obtain ⟨v1, w1, happ1, hown1, hg1, ho1⟩ := append_run eltK (w := (w.alloc (.cells #[] 47)).drew) ((ROwn.empty (enc := encK) (k := 3) w.heap.size w (Nat.le_refl _)).kept (fun _ _ => rfl)) hbe.size ((hAs.up hbe).take eltK i) cp (by simp; omega) (by omega)
    have hb1 : Below w.heap.size w w1 := hbe.grown hg1 hbe.size (fun k hk => by simp [Value.ownBlock] at hk; omega)
    obtain ⟨v2, w2, happ2, hown2, hg2, ho2⟩ := append_run eltK hown1 hb1.size ((hAs.up hb1).drop eltK (n := i + 1) (cap := cp) (by omega) hA1) (cp - (i + 1)) (by simp; omega) (by omega)
    have hb2 : Below w.heap.size w w2 := hb1.grown hg2 hb1.size (fun k hk => hown1.base hk)
    rw [List.length_take, Nat.min_eq_left (by omega)] at happ1
    rw [List.length_drop] at happ2
    rw [List.nil_append, hda] at hown2
    obtain ⟨A1, cp1, hv1, _, _, _⟩ := hown1.shape eltK
    generalize ([] ++ List.take i m).length = L1 at hv1
    obtain ⟨A2, cp2, hv2, _, _, _⟩ := hown2.shape eltK
    generalize (delM m id).length = L2 at hv2
    subst hv1 hv2
    by_cases hcp : cp = i + 1
    · subst hcp
      have d0 := (hb2.cell (p := ⟨bo, 0, none⟩) h.lt).trans h.c0
      have d1 := (hb2.cell (p := ⟨bo, 1, none⟩) h.lt).trans h.c1
      have g0 := (hb2.frozen (p := ⟨bo, 0, none⟩) h.lt).trans h.f0
      have g1 := (hb2.frozen (p := ⟨bo, 1, none⟩) h.lt).trans h.f1
      have hr := RefAt.setL d0 d1 g0 g1 (hown2.low hle) hlo (Nat.le_trans hle hb2.size)
      have C0 : ∀ x : UpW w.heap.size w, x.w.cell? ⟨bo, 0, none⟩ = some (.slice A m.length (i + 1)) := fun x => (x.up.cell (p := ⟨bo, 0, none⟩) h.lt).trans h.c0
      have H := Lib.hid h
      have HI := Lib.hid hi
      have HF := Lib.hid hf
      have HP1 := Lib.hid happ1
      rw [if_pos rfl, Nat.sub_self, show m.length - (i + 1) = 0 by omega] at happ2
      have HP2 := Lib.hid happ2
      have HR := Lib.hid hr
      have hw2 : IntKind.i64.wrap ((i : Int) + 1) = (i : Int) + 1 := IntWalk.i64_in _ (by omega)
      have hi1 : (i : Int) ≤ ((i + 1 : Nat) : Int) := by omega
      have hi2 : (i : Int) + 1 ≤ m.length := by omega
      have hi3 : 0 ≤ (i : Int) + 1 := by omega
      have hi4 : ((i : Int) + 1).toNat = i + 1 := by omega
      clear happ1 happ2 hr hown1 hown2 hg1 hg2 ho1 ho2 hi hf hAs hda h hx hnd
      go_enter Try.func48, Try.ntmps48
      go_wp2_with (go_at_call 53; refine (rfind_yes H.out HI.out HF.out hl).mono ?_; rintro e w' ⟨rfl, rfl⟩)
      refine wp_region_mix w.heap.size 17 [([0, 2, 3, 4, 5, 6, 7, 9, 10, 11, 12, 13, 14, 15], 1), ([], 8), ([], 16)] [] (by kernel_rfl) (fun c d v a w h => by cases d <;> exact h) (by kernel_rfl) ?_
      simp only [wpMix, pk_nil, pk_cons, pushAt_zero, pushAt_succ, List.drop_succ_cons, List.drop_zero]
      repeat (go_big_quiet_step (fail))
      refine wpQuiet_nil ?_
      clear C0 hw2 hi1 hi2 hi3 hi4
      go_wp2_with fail
      refine thenQ_normal ⟨⟨⟨_, hbe⟩, rfl⟩, ?_⟩
      refine wpQuiet_nil ?_
      go_wp2_with (at_builtin; refine wpList_app_run rfl _ _ _ rfl rfl rfl HP1.out ?_)
      refine thenQ_normal ⟨⟨⟨_, hb1⟩, rfl⟩, ?_⟩
      refine wpQuiet_nil ?_
      go_wp2_with (at_builtin; refine wpList_app_run rfl _ _ _ rfl rfl rfl HP2.out ?_)
      refine thenQ_normal ⟨⟨⟨_, hb2⟩, rfl⟩, ?_⟩
      refine wpQuiet_nil ?_
      go_wp2_with fail
      go_ret
      exact ⟨rfl, _, HR.out, (Only.of_below hb2).setCell (p := ⟨bo, 0, none⟩) (.inl rfl) _⟩
    · have d0 := (hb2.cell (p := ⟨bo, 0, none⟩) h.lt).trans h.c0
      have d1 := (hb2.cell (p := ⟨bo, 1, none⟩) h.lt).trans h.c1
      have g0 := (hb2.frozen (p := ⟨bo, 0, none⟩) h.lt).trans h.f0
      have g1 := (hb2.frozen (p := ⟨bo, 1, none⟩) h.lt).trans h.f1
      have hr := RefAt.setL d0 d1 g0 g1 (hown2.low hle) hlo (Nat.le_trans hle hb2.size)
      have C0 : ∀ x : UpW w.heap.size w, x.w.cell? ⟨bo, 0, none⟩ = some (.slice A m.length cp) := fun x => (x.up.cell (p := ⟨bo, 0, none⟩) h.lt).trans h.c0
      have H := Lib.hid h
      have HI := Lib.hid hi
      have HF := Lib.hid hf
      have HP1 := Lib.hid happ1
      rw [if_neg hcp] at happ2
      have HP2 := Lib.hid happ2
      have HR := Lib.hid hr
      have hw2 : IntKind.i64.wrap ((i : Int) + 1) = (i : Int) + 1 := IntWalk.i64_in _ (by omega)
      have hi1 : (i : Int) ≤ cp := by omega
      have hi2 : (i : Int) + 1 ≤ m.length := by omega
      have hi3 : 0 ≤ (i : Int) + 1 := by omega
      have hi4 : ((i : Int) + 1).toNat = i + 1 := by omega
      clear happ1 happ2 hr hown1 hown2 hg1 hg2 ho1 ho2 hi hf hAs hda h hx hnd
      go_enter Try.func48, Try.ntmps48
      go_wp2_with (go_at_call 53; refine (rfind_yes H.out HI.out HF.out hl).mono ?_; rintro e w' ⟨rfl, rfl⟩)
      refine wp_region_mix w.heap.size 17 [([0, 2, 3, 4, 5, 6, 7, 9, 10, 11, 12, 13, 14, 15], 1), ([], 8), ([], 16)] [] (by kernel_rfl) (fun c d v a w h => by cases d <;> exact h) (by kernel_rfl) ?_
      simp only [wpMix, pk_nil, pk_cons, pushAt_zero, pushAt_succ, List.drop_succ_cons, List.drop_zero]
      repeat (go_big_quiet_step (fail))
      refine wpQuiet_nil ?_
      clear C0 hw2 hi1 hi2 hi3 hi4
      go_wp2_with fail
      refine thenQ_normal ⟨⟨⟨_, hbe⟩, rfl⟩, ?_⟩
      refine wpQuiet_nil ?_
      go_wp2_with (at_builtin; refine wpList_app_run rfl _ _ _ rfl rfl rfl HP1.out ?_)
      refine thenQ_normal ⟨⟨⟨_, hb1⟩, rfl⟩, ?_⟩
      refine wpQuiet_nil ?_
      go_wp2_with (at_builtin; refine wpList_app_run rfl _ _ _ rfl rfl rfl HP2.out ?_)
      refine thenQ_normal ⟨⟨⟨_, hb2⟩, rfl⟩, ?_⟩
      refine wpQuiet_nil ?_
      go_wp2_with fail
      go_ret
      exact ⟨rfl, _, HR.out, (Only.of_below hb2).setCell (p := ⟨bo, 0, none⟩) (.inl rfl) _⟩
end Go.Proofs.Ytlnpjdihdemgmaa
