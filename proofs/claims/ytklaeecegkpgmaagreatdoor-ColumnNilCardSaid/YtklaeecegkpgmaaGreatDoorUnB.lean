import Derived.Test.YtklaeecegkpgmaaGreatDoorJk
import Derived.Test.YtklaeecegkpgmaaGreatDoorJe
/- package undo: Add of the three changes that an insertion in a new buffer logs. -/
namespace Go.Proofs.YtklaeecegkpgmaaGreatDoor
open Go.RowKit
set_option linter.unusedVariables false
set_option linter.unusedSimpArgs false
theorem eltC : Elt chC 173 156 9 80 (chV (0, 0, 0)) := ⟨Tryz.underlying173, by kernel_rfl, rfl, by omega, fun _ => rfl, fun x u hu => by simp at hu; rcases hu with rfl | rfl | rfl | rfl | rfl | rfl | rfl | rfl | rfl <;> rfl⟩
section
variable {w w' : World} {N l B : Nat}
set_option maxRecDepth 100000 in
set_option maxHeartbeats 2000000 in
theorem uaddA {f : Value} (hR : Rules N w) (hB : B ≤ w.heap.size) (hNB : N ≤ B) (hlB : l < B) (hNl : N ≤ l) (h : Blk w l 175 (lgC f (.slice none 0 0) 0 0)) :
    Calls Tryz.prog 157 #[.pointer (some ⟨l, 0, none⟩), chV (6, 0, 0)] w fun e w' => e = .returned (.int .i64 0) ∧ ∃ v', ROwn chC 156 9 B w' v' ([] ++ [(6, 0, 0)]) ∧ Blk w' l 175 (lgC f v' 1 1) ∧ Only (fun k => k = l ∨ B ≤ k) w w' := by
  have hv : ROwn chC 156 9 B w (.slice none 0 0) [] := ROwn.nil _ _
  have hbx := below1 w (.cells #[.int .i64 6, .int .i64 0, .int .i64 0, .int .i64 0, .int .i64 0, .string ⟨#[]⟩, .int .i64 0, .int .i64 0, .bool false] 156)
  have hbk := Blk.made w 156 #[.int .i64 6, .int .i64 0, .int .i64 0, .int .i64 0, .int .i64 0, .string ⟨#[]⟩, .int .i64 0, .int .i64 0, .bool false]
  have hl0 := h.lt
  have H := Lib.hid (h.up hbx)
  have HV := Lib.hid (hv.up hbx)
  have HR := Lib.hid (hR.up hbx)
  have HBX := Lib.hid hbx
  have HBK := Lib.hid hbk
  clear h hv hR hbk
  go_enter Tryz.func157, Tryz.ntmps157
  go_wp2_with fail
  generalize w.alloc (.cells #[.int .i64 6, .int .i64 0, .int .i64 0, .int .i64 0, .int .i64 0, .string ⟨#[]⟩, .int .i64 0, .int .i64 0, .bool false] 156) = W at *
  refine (unone _ _ _ _ H.out).mono ?_
  rintro e w' ⟨rfl, rfl⟩
  have b0 := HBK.out.cell (j := 0) rfl
  have b1 := HBK.out.cell (j := 1) rfl
  have b2 := HBK.out.cell (j := 2) rfl
  have b3 := HBK.out.cell (j := 3) rfl
  have b4 := HBK.out.cell (j := 4) rfl
  have b5 := HBK.out.cell (j := 5) rfl
  have b6 := HBK.out.cell (j := 6) rfl
  have b7 := HBK.out.cell (j := 7) rfl
  have b8 := HBK.out.cell (j := 8) rfl
  go_wp2_with fail
  refine (ucheck6 HR.out).mono ?_
  rintro e w1 ⟨rfl, hb1⟩
  have H1 := Lib.hid (H.out.up hb1)
  have HV1 := Lib.hid (HV.out.up hb1)
  have HBX1 := Lib.hid (up2 HBX.out hb1)
  have HBK1 := Lib.hid (HBK.out.up hb1)
  clear b0 b1 b2 b3 b4 b5 b6 b7 b8 hb1 H HV HBX HBK HR
  have b0 := HBK1.out.cell (j := 0) rfl
  have b1 := HBK1.out.cell (j := 1) rfl
  have b2 := HBK1.out.cell (j := 2) rfl
  have b3 := HBK1.out.cell (j := 3) rfl
  have b4 := HBK1.out.cell (j := 4) rfl
  have b5 := HBK1.out.cell (j := 5) rfl
  have b6 := HBK1.out.cell (j := 6) rfl
  have b7 := HBK1.out.cell (j := 7) rfl
  have b8 := HBK1.out.cell (j := 8) rfl
  have l2 := H1.out.cell (j := 2) rfl
  go_wp2_with fail
  go_region
  go_wp2_with fail
  refine (uprice 6 0 0 (by simp)).mono ?_
  rintro e w2 ⟨rfl, hb2⟩
  have hb2' : Below w1.heap.size w1 w2 := up2 ((Below.refl _ w1).drew) hb2
  have H2 := Lib.hid (H1.out.up hb2')
  have HV2 := Lib.hid (HV1.out.up hb2')
  have HBX2 := Lib.hid (up2 HBX1.out hb2')
  have HBK2 := Lib.hid (HBK1.out.up hb2')
  clear b0 b1 b2 b3 b4 b5 b6 b7 b8 hb2 hb2' H1 HV1 HBX1 HBK1 l2
  have l5 := H2.out.cell (j := 5) rfl
  go_wp2_with fail
  obtain ⟨VV, hVV⟩ : ∃ VV : Value, VV = (.slice none 0 0) := ⟨_, rfl⟩
  have hVB : ∀ k, VV.ownBlock = some k → B ≤ k ∧ k < w.heap.size := by
    intro k hk
    subst hVV
    simp [Value.ownBlock] at hk
    skip
  obtain ⟨v', w3, happ, hown3, hb3, ho3, hblk3⟩ := append_elem eltC (B := B) (w := w2.drew) (hVV ▸ (HV2.out.up ((Below.refl _ w2).drew)) : ROwn chC 156 9 B w2.drew VV []) (Nat.le_trans hB HBX2.out.size) (6, 0, 0) (by simp) (by omega)
  have HP := Lib.hid happ
  have HO3 : Hid (Only (fun k => VV.ownBlock = some k) w2 w3) := Lib.hid (((Only.refl _ w2).drew).trans ho3)
  have hon : Only (fun k => VV.ownBlock = some k) w w3 := (Only.of_below HBX2.out).trans HO3.out
  have HON := Lib.hid hon
  have hk3 : Blk w3 l 175 _ := H2.out.only HO3.out (fun hk => by have := (hVB l hk).1; omega)
  have HK3 := Lib.hid hk3
  have C2 : ∀ x : OnW (fun k => VV.ownBlock = some k) w2, x.w.cell? ⟨l, 2, none⟩ = some (.slice none 0 0) := fun x => (H2.out.only x.on (fun hk => by have := (hVB l hk).1; omega)).cell (j := 2) rfl
  have CB : ∀ x : OnW (fun k => VV.ownBlock = some k) w2, Blk x.w w.heap.size 156 _ := fun x => HBK2.out.only x.on (fun hk => by have := (hVB _ hk).2; omega)
  have b0 := fun x => (CB x).cell (j := 0) rfl
  have b1 := fun x => (CB x).cell (j := 1) rfl
  have b2 := fun x => (CB x).cell (j := 2) rfl
  have b3 := fun x => (CB x).cell (j := 3) rfl
  have b4 := fun x => (CB x).cell (j := 4) rfl
  have b5 := fun x => (CB x).cell (j := 5) rfl
  have b6 := fun x => (CB x).cell (j := 6) rfl
  have b7 := fun x => (CB x).cell (j := 7) rfl
  have b8 := fun x => (CB x).cell (j := 8) rfl
  clear CB happ ho3 hon hk3 hb3
  refine wp_region_mixO (fun k => VV.ownBlock = some k) 10 (.one [0, 1, 2, 3, 4, 5] 6 (.one [] 7 (.done [8, 9]))) (by kernel_rfl) (fun c d v a w h => by cases d <;> exact h) (by kernel_rfl) ?_
  simp only [wpMixT, pk_nil, pk_cons, pushAt_zero, pushAt_succ, List.drop_succ_cons, List.drop_zero]
  repeat (go_big_quiet_step (fail))
  refine wpQuiet_nil ?_
  clear b0 b1 b2 b3 b4 b5 b6 b7 b8
  subst hVV
  go_wp2_with fail
  refine thenQ_normal ⟨⟨⟨_, (Only.refl _ w2).drew.alloc _⟩, rfl⟩, ?_⟩
  refine wpQuiet_nil ?_
  refine wpList_app_run rfl _ _ _ rfl rfl rfl HP.out ?_
  go_wp2_with fail
  refine thenQ_normal ⟨⟨⟨_, HO3.out⟩, rfl⟩, ?_⟩
  repeat (go_big_quiet_step (fail))
  refine wpQuiet_nil ?_
  clear C2
  have HOW := Lib.hid hown3
  obtain ⟨A', cap', rfl, _, _, _⟩ := hown3.shape eltC
  clear hown3
  have f2 := HK3.out.fz 2
  have k2 := HK3.out.cell (j := 2) rfl
  have hsw : w.heap.size ≤ w3.heap.size := HON.out.size
  have hk4 := HK3.out.set (j := 2) (by simp) (.slice A' 1 cap')
  have HW4 := Lib.hid (HOW.out.kept (w' := w3.setCell ⟨l, 2, none⟩ (.slice A' 1 cap')) (fun g hg => Below.heap_setCell _ _ _ _ (by have := HOW.out.base hg; simp only []; omega)))
  have HO4 := Lib.hid ((HON.out.mono (T := fun k => k = l ∨ B ≤ k) (fun k hk => .inr (hVB k hk).1)).setCell (p := ⟨l, 2, none⟩) (.inl rfl) (.slice A' 1 cap'))
  have HK4 := Lib.hid hk4
  clear hk4
  go_wp2_with fail
  generalize w3.setCell ⟨l, 2, none⟩ (.slice A' 1 cap') = w4 at *
  have m4 := HK4.out.cell (j := 4) rfl
  have m5 := HK4.out.cell (j := 5) rfl
  have f4 := HK4.out.fz 4
  have f5 := HK4.out.fz 5
  go_region
  go_wp2_with fail
  go_ret
  have hk6 := (HK4.out.set (j := 4) (by simp) (.int .i64 1)).set (j := 5) (by simp) (.int .i64 1)
  refine ⟨rfl, _, ?_, hk6, ((HO4.out.setCell (p := ⟨l, 4, none⟩) (.inl rfl) (.int .i64 1)).setCell (p := ⟨l, 5, none⟩) (.inl rfl) (.int .i64 1)).drew⟩
  exact HW4.out.kept (fun g hg => by
    have h1 := HOW.out.base hg
    exact (Below.heap_setCell (w4.setCell ⟨l, 4, none⟩ (.int .i64 1)) ⟨l, 5, none⟩ (.int .i64 1) g (by simp only []; omega)).trans (Below.heap_setCell w4 ⟨l, 4, none⟩ (.int .i64 1) g (by simp only []; omega)))
set_option maxRecDepth 100000 in
set_option maxHeartbeats 2000000 in
theorem uaddB {f v : Value} (hR : Rules N w) (hB : B ≤ w.heap.size) (hNB : N ≤ B) (hlB : l < B) (hNl : N ≤ l) (hv : ROwn chC 156 9 B w v [(6, 0, 0)]) (h : Blk w l 175 (lgC f v 1 1)) :
    Calls Tryz.prog 157 #[.pointer (some ⟨l, 0, none⟩), chV (4, 1, 0)] w fun e w' => e = .returned (.int .i64 0) ∧ ∃ v', ROwn chC 156 9 B w' v' ([(6, 0, 0)] ++ [(4, 1, 0)]) ∧ Blk w' l 175 (lgC f v' 2 2) ∧ Only (fun k => k = l ∨ B ≤ k) w w' := by
  obtain ⟨g, cap, rfl, hcap1, hcap2, hgB, hgl, _, hat⟩ := hv.lies eltC (by simp)
  clear hat
  have hbx := below1 w (.cells #[.int .i64 4, .int .i64 1, .int .i64 0, .int .i64 0, .int .i64 0, .string ⟨#[]⟩, .int .i64 0, .int .i64 0, .bool false] 156)
  have hbk := Blk.made w 156 #[.int .i64 4, .int .i64 1, .int .i64 0, .int .i64 0, .int .i64 0, .string ⟨#[]⟩, .int .i64 0, .int .i64 0, .bool false]
  have hl0 := h.lt
  have H := Lib.hid (h.up hbx)
  have HV := Lib.hid (hv.up hbx)
  have HR := Lib.hid (hR.up hbx)
  have HBX := Lib.hid hbx
  have HBK := Lib.hid hbk
  clear h hv hR hbk
  go_enter Tryz.func157, Tryz.ntmps157
  go_wp2_with fail
  generalize w.alloc (.cells #[.int .i64 4, .int .i64 1, .int .i64 0, .int .i64 0, .int .i64 0, .string ⟨#[]⟩, .int .i64 0, .int .i64 0, .bool false] 156) = W at *
  refine (unone _ _ _ _ H.out).mono ?_
  rintro e w' ⟨rfl, rfl⟩
  have b0 := HBK.out.cell (j := 0) rfl
  have b1 := HBK.out.cell (j := 1) rfl
  have b2 := HBK.out.cell (j := 2) rfl
  have b3 := HBK.out.cell (j := 3) rfl
  have b4 := HBK.out.cell (j := 4) rfl
  have b5 := HBK.out.cell (j := 5) rfl
  have b6 := HBK.out.cell (j := 6) rfl
  have b7 := HBK.out.cell (j := 7) rfl
  have b8 := HBK.out.cell (j := 8) rfl
  go_wp2_with fail
  refine (ucheck4 1 (by omega) (by omega) HR.out).mono ?_
  rintro e w1 ⟨rfl, hb1⟩
  have H1 := Lib.hid (H.out.up hb1)
  have HV1 := Lib.hid (HV.out.up hb1)
  have HBX1 := Lib.hid (up2 HBX.out hb1)
  have HBK1 := Lib.hid (HBK.out.up hb1)
  clear b0 b1 b2 b3 b4 b5 b6 b7 b8 hb1 H HV HBX HBK HR
  have b0 := HBK1.out.cell (j := 0) rfl
  have b1 := HBK1.out.cell (j := 1) rfl
  have b2 := HBK1.out.cell (j := 2) rfl
  have b3 := HBK1.out.cell (j := 3) rfl
  have b4 := HBK1.out.cell (j := 4) rfl
  have b5 := HBK1.out.cell (j := 5) rfl
  have b6 := HBK1.out.cell (j := 6) rfl
  have b7 := HBK1.out.cell (j := 7) rfl
  have b8 := HBK1.out.cell (j := 8) rfl
  have l2 := H1.out.cell (j := 2) rfl
  go_wp2_with fail
  go_region
  go_wp2_with fail
  refine (uprice 4 1 0 (by simp)).mono ?_
  rintro e w2 ⟨rfl, hb2⟩
  have hb2' : Below w1.heap.size w1 w2 := up2 ((Below.refl _ w1).drew) hb2
  have H2 := Lib.hid (H1.out.up hb2')
  have HV2 := Lib.hid (HV1.out.up hb2')
  have HBX2 := Lib.hid (up2 HBX1.out hb2')
  have HBK2 := Lib.hid (HBK1.out.up hb2')
  clear b0 b1 b2 b3 b4 b5 b6 b7 b8 hb2 hb2' H1 HV1 HBX1 HBK1 l2
  have l5 := H2.out.cell (j := 5) rfl
  go_wp2_with fail
  obtain ⟨VV, hVV⟩ : ∃ VV : Value, VV = (.slice (some ⟨g, 0, none⟩) 1 cap) := ⟨_, rfl⟩
  have hVB : ∀ k, VV.ownBlock = some k → B ≤ k ∧ k < w.heap.size := by
    intro k hk
    subst hVV
    simp [Value.ownBlock] at hk
    exact hk ▸ ⟨hgB, hgl⟩
  obtain ⟨v', w3, happ, hown3, hb3, ho3, hblk3⟩ := append_elem eltC (B := B) (w := w2.drew) (hVV ▸ (HV2.out.up ((Below.refl _ w2).drew)) : ROwn chC 156 9 B w2.drew VV [(6, 0, 0)]) (Nat.le_trans hB HBX2.out.size) (4, 1, 0) (by simp) (by omega)
  have HP := Lib.hid happ
  have HO3 : Hid (Only (fun k => VV.ownBlock = some k) w2 w3) := Lib.hid (((Only.refl _ w2).drew).trans ho3)
  have hon : Only (fun k => VV.ownBlock = some k) w w3 := (Only.of_below HBX2.out).trans HO3.out
  have HON := Lib.hid hon
  have hk3 : Blk w3 l 175 _ := H2.out.only HO3.out (fun hk => by have := (hVB l hk).1; omega)
  have HK3 := Lib.hid hk3
  have C2 : ∀ x : OnW (fun k => VV.ownBlock = some k) w2, x.w.cell? ⟨l, 2, none⟩ = some (.slice (some ⟨g, 0, none⟩) 1 cap) := fun x => (H2.out.only x.on (fun hk => by have := (hVB l hk).1; omega)).cell (j := 2) rfl
  have CB : ∀ x : OnW (fun k => VV.ownBlock = some k) w2, Blk x.w w.heap.size 156 _ := fun x => HBK2.out.only x.on (fun hk => by have := (hVB _ hk).2; omega)
  have b0 := fun x => (CB x).cell (j := 0) rfl
  have b1 := fun x => (CB x).cell (j := 1) rfl
  have b2 := fun x => (CB x).cell (j := 2) rfl
  have b3 := fun x => (CB x).cell (j := 3) rfl
  have b4 := fun x => (CB x).cell (j := 4) rfl
  have b5 := fun x => (CB x).cell (j := 5) rfl
  have b6 := fun x => (CB x).cell (j := 6) rfl
  have b7 := fun x => (CB x).cell (j := 7) rfl
  have b8 := fun x => (CB x).cell (j := 8) rfl
  clear CB happ ho3 hon hk3 hb3
  refine wp_region_mixO (fun k => VV.ownBlock = some k) 10 (.one [0, 1, 2, 3, 4, 5] 6 (.one [] 7 (.done [8, 9]))) (by kernel_rfl) (fun c d v a w h => by cases d <;> exact h) (by kernel_rfl) ?_
  simp only [wpMixT, pk_nil, pk_cons, pushAt_zero, pushAt_succ, List.drop_succ_cons, List.drop_zero]
  repeat (go_big_quiet_step (fail))
  refine wpQuiet_nil ?_
  clear b0 b1 b2 b3 b4 b5 b6 b7 b8
  subst hVV
  go_wp2_with fail
  refine thenQ_normal ⟨⟨⟨_, (Only.refl _ w2).drew.alloc _⟩, rfl⟩, ?_⟩
  refine wpQuiet_nil ?_
  refine wpList_app_run rfl _ _ _ rfl rfl rfl HP.out ?_
  go_wp2_with fail
  refine thenQ_normal ⟨⟨⟨_, HO3.out⟩, rfl⟩, ?_⟩
  repeat (go_big_quiet_step (fail))
  refine wpQuiet_nil ?_
  clear C2
  have HOW := Lib.hid hown3
  obtain ⟨A', cap', rfl, _, _, _⟩ := hown3.shape eltC
  clear hown3
  have f2 := HK3.out.fz 2
  have k2 := HK3.out.cell (j := 2) rfl
  have hsw : w.heap.size ≤ w3.heap.size := HON.out.size
  have hk4 := HK3.out.set (j := 2) (by simp) (.slice A' 2 cap')
  have HW4 := Lib.hid (HOW.out.kept (w' := w3.setCell ⟨l, 2, none⟩ (.slice A' 2 cap')) (fun g hg => Below.heap_setCell _ _ _ _ (by have := HOW.out.base hg; simp only []; omega)))
  have HO4 := Lib.hid ((HON.out.mono (T := fun k => k = l ∨ B ≤ k) (fun k hk => .inr (hVB k hk).1)).setCell (p := ⟨l, 2, none⟩) (.inl rfl) (.slice A' 2 cap'))
  have HK4 := Lib.hid hk4
  clear hk4
  go_wp2_with fail
  generalize w3.setCell ⟨l, 2, none⟩ (.slice A' 2 cap') = w4 at *
  have m4 := HK4.out.cell (j := 4) rfl
  have m5 := HK4.out.cell (j := 5) rfl
  have f4 := HK4.out.fz 4
  have f5 := HK4.out.fz 5
  go_region
  go_wp2_with fail
  go_ret
  have hk6 := (HK4.out.set (j := 4) (by simp) (.int .i64 2)).set (j := 5) (by simp) (.int .i64 2)
  refine ⟨rfl, _, ?_, hk6, ((HO4.out.setCell (p := ⟨l, 4, none⟩) (.inl rfl) (.int .i64 2)).setCell (p := ⟨l, 5, none⟩) (.inl rfl) (.int .i64 2)).drew⟩
  exact HW4.out.kept (fun g hg => by
    have h1 := HOW.out.base hg
    exact (Below.heap_setCell (w4.setCell ⟨l, 4, none⟩ (.int .i64 2)) ⟨l, 5, none⟩ (.int .i64 2) g (by simp only []; omega)).trans (Below.heap_setCell w4 ⟨l, 4, none⟩ (.int .i64 2) g (by simp only []; omega)))
set_option maxRecDepth 100000 in
set_option maxHeartbeats 2000000 in
theorem uaddC {f v : Value} (q : Nat) (hq : 1 ≤ q) (hq2 : q ≤ 100000000) (hR : Rules N w) (hB : B ≤ w.heap.size) (hNB : N ≤ B) (hlB : l < B) (hNl : N ≤ l) (hv : ROwn chC 156 9 B w v [(6, 0, 0), (4, 1, 0)]) (h : Blk w l 175 (lgC f v 2 2)) :
    Calls Tryz.prog 157 #[.pointer (some ⟨l, 0, none⟩), chV (1, 1, (q : Int))] w fun e w' => e = .returned (.int .i64 0) ∧ ∃ v', ROwn chC 156 9 B w' v' ([(6, 0, 0), (4, 1, 0)] ++ [(1, 1, (q : Int))]) ∧ Blk w' l 175 (lgC f v' 3 3) ∧ Only (fun k => k = l ∨ B ≤ k) w w' := by
  obtain ⟨g, cap, rfl, hcap1, hcap2, hgB, hgl, _, hat⟩ := hv.lies eltC (by simp)
  have hc9 : w.cell? ⟨g, 9, none⟩ = some (.int .i64 4) := hat 1 (4, 1, 0) 0 _ rfl rfl
  clear hat
  have hbx := below1 w (.cells #[.int .i64 1, .int .i64 1, .int .i64 (q : Int), .int .i64 0, .int .i64 0, .string ⟨#[]⟩, .int .i64 0, .int .i64 0, .bool false] 156)
  have hbk := Blk.made w 156 #[.int .i64 1, .int .i64 1, .int .i64 (q : Int), .int .i64 0, .int .i64 0, .string ⟨#[]⟩, .int .i64 0, .int .i64 0, .bool false]
  have hl0 := h.lt
  have H := Lib.hid (h.up hbx)
  have HV := Lib.hid (hv.up hbx)
  have HR := Lib.hid (hR.up hbx)
  have HBX := Lib.hid hbx
  have HBK := Lib.hid hbk
  clear h hv hR hbk
  go_enter Tryz.func157, Tryz.ntmps157
  go_wp2_with fail
  generalize w.alloc (.cells #[.int .i64 1, .int .i64 1, .int .i64 (q : Int), .int .i64 0, .int .i64 0, .string ⟨#[]⟩, .int .i64 0, .int .i64 0, .bool false] 156) = W at *
  refine (unone _ _ _ _ H.out).mono ?_
  rintro e w' ⟨rfl, rfl⟩
  have b0 := HBK.out.cell (j := 0) rfl
  have b1 := HBK.out.cell (j := 1) rfl
  have b2 := HBK.out.cell (j := 2) rfl
  have b3 := HBK.out.cell (j := 3) rfl
  have b4 := HBK.out.cell (j := 4) rfl
  have b5 := HBK.out.cell (j := 5) rfl
  have b6 := HBK.out.cell (j := 6) rfl
  have b7 := HBK.out.cell (j := 7) rfl
  have b8 := HBK.out.cell (j := 8) rfl
  go_wp2_with fail
  refine (ucheck1 1 q (by omega) hq (by omega) HR.out).mono ?_
  rintro e w1 ⟨rfl, hb1⟩
  have H1 := Lib.hid (H.out.up hb1)
  have HV1 := Lib.hid (HV.out.up hb1)
  have HBX1 := Lib.hid (up2 HBX.out hb1)
  have HBK1 := Lib.hid (HBK.out.up hb1)
  clear b0 b1 b2 b3 b4 b5 b6 b7 b8 hb1 H HV HBX HBK HR
  have b0 := HBK1.out.cell (j := 0) rfl
  have b1 := HBK1.out.cell (j := 1) rfl
  have b2 := HBK1.out.cell (j := 2) rfl
  have b3 := HBK1.out.cell (j := 3) rfl
  have b4 := HBK1.out.cell (j := 4) rfl
  have b5 := HBK1.out.cell (j := 5) rfl
  have b6 := HBK1.out.cell (j := 6) rfl
  have b7 := HBK1.out.cell (j := 7) rfl
  have b8 := HBK1.out.cell (j := 8) rfl
  have l2 := H1.out.cell (j := 2) rfl
  have hlk : w1.cell? ⟨g, 9, none⟩ = some (.int .i64 4) := (World.cell?_of_block (w := w) (a := ⟨g, 9, none⟩) (HBX1.out.block g hgl)).trans hc9
  go_wp2_with fail
  go_region
  go_wp2_with fail
  refine (uprice 1 1 (q : Int) (by simp)).mono ?_
  rintro e w2 ⟨rfl, hb2⟩
  have hb2' : Below w1.heap.size w1 w2 := up2 ((Below.refl _ w1).drew) hb2
  have H2 := Lib.hid (H1.out.up hb2')
  have HV2 := Lib.hid (HV1.out.up hb2')
  have HBX2 := Lib.hid (up2 HBX1.out hb2')
  have HBK2 := Lib.hid (HBK1.out.up hb2')
  clear b0 b1 b2 b3 b4 b5 b6 b7 b8 hb2 hb2' H1 HV1 HBX1 HBK1 l2 hlk hc9
  have l5 := H2.out.cell (j := 5) rfl
  go_wp2_with fail
  obtain ⟨VV, hVV⟩ : ∃ VV : Value, VV = (.slice (some ⟨g, 0, none⟩) 2 cap) := ⟨_, rfl⟩
  have hVB : ∀ k, VV.ownBlock = some k → B ≤ k ∧ k < w.heap.size := by
    intro k hk
    subst hVV
    simp [Value.ownBlock] at hk
    exact hk ▸ ⟨hgB, hgl⟩
  obtain ⟨v', w3, happ, hown3, hb3, ho3, hblk3⟩ := append_elem eltC (B := B) (w := w2.drew) (hVV ▸ (HV2.out.up ((Below.refl _ w2).drew)) : ROwn chC 156 9 B w2.drew VV [(6, 0, 0), (4, 1, 0)]) (Nat.le_trans hB HBX2.out.size) (1, 1, (q : Int)) (by simp) (by omega)
  have HP := Lib.hid happ
  have HO3 : Hid (Only (fun k => VV.ownBlock = some k) w2 w3) := Lib.hid (((Only.refl _ w2).drew).trans ho3)
  have hon : Only (fun k => VV.ownBlock = some k) w w3 := (Only.of_below HBX2.out).trans HO3.out
  have HON := Lib.hid hon
  have hk3 : Blk w3 l 175 _ := H2.out.only HO3.out (fun hk => by have := (hVB l hk).1; omega)
  have HK3 := Lib.hid hk3
  have C2 : ∀ x : OnW (fun k => VV.ownBlock = some k) w2, x.w.cell? ⟨l, 2, none⟩ = some (.slice (some ⟨g, 0, none⟩) 2 cap) := fun x => (H2.out.only x.on (fun hk => by have := (hVB l hk).1; omega)).cell (j := 2) rfl
  have CB : ∀ x : OnW (fun k => VV.ownBlock = some k) w2, Blk x.w w.heap.size 156 _ := fun x => HBK2.out.only x.on (fun hk => by have := (hVB _ hk).2; omega)
  have b0 := fun x => (CB x).cell (j := 0) rfl
  have b1 := fun x => (CB x).cell (j := 1) rfl
  have b2 := fun x => (CB x).cell (j := 2) rfl
  have b3 := fun x => (CB x).cell (j := 3) rfl
  have b4 := fun x => (CB x).cell (j := 4) rfl
  have b5 := fun x => (CB x).cell (j := 5) rfl
  have b6 := fun x => (CB x).cell (j := 6) rfl
  have b7 := fun x => (CB x).cell (j := 7) rfl
  have b8 := fun x => (CB x).cell (j := 8) rfl
  clear CB happ ho3 hon hk3 hb3
  refine wp_region_mixO (fun k => VV.ownBlock = some k) 10 (.one [0, 1, 2, 3, 4, 5] 6 (.one [] 7 (.done [8, 9]))) (by kernel_rfl) (fun c d v a w h => by cases d <;> exact h) (by kernel_rfl) ?_
  simp only [wpMixT, pk_nil, pk_cons, pushAt_zero, pushAt_succ, List.drop_succ_cons, List.drop_zero]
  repeat (go_big_quiet_step (fail))
  refine wpQuiet_nil ?_
  clear b0 b1 b2 b3 b4 b5 b6 b7 b8
  subst hVV
  go_wp2_with fail
  refine thenQ_normal ⟨⟨⟨_, (Only.refl _ w2).drew.alloc _⟩, rfl⟩, ?_⟩
  refine wpQuiet_nil ?_
  refine wpList_app_run rfl _ _ _ rfl rfl rfl HP.out ?_
  go_wp2_with fail
  refine thenQ_normal ⟨⟨⟨_, HO3.out⟩, rfl⟩, ?_⟩
  repeat (go_big_quiet_step (fail))
  refine wpQuiet_nil ?_
  clear C2
  have HOW := Lib.hid hown3
  obtain ⟨A', cap', rfl, _, _, _⟩ := hown3.shape eltC
  clear hown3
  have f2 := HK3.out.fz 2
  have k2 := HK3.out.cell (j := 2) rfl
  have hsw : w.heap.size ≤ w3.heap.size := HON.out.size
  have hk4 := HK3.out.set (j := 2) (by simp) (.slice A' 3 cap')
  have HW4 := Lib.hid (HOW.out.kept (w' := w3.setCell ⟨l, 2, none⟩ (.slice A' 3 cap')) (fun g hg => Below.heap_setCell _ _ _ _ (by have := HOW.out.base hg; simp only []; omega)))
  have HO4 := Lib.hid ((HON.out.mono (T := fun k => k = l ∨ B ≤ k) (fun k hk => .inr (hVB k hk).1)).setCell (p := ⟨l, 2, none⟩) (.inl rfl) (.slice A' 3 cap'))
  have HK4 := Lib.hid hk4
  clear hk4
  go_wp2_with fail
  generalize w3.setCell ⟨l, 2, none⟩ (.slice A' 3 cap') = w4 at *
  have m4 := HK4.out.cell (j := 4) rfl
  have m5 := HK4.out.cell (j := 5) rfl
  have f4 := HK4.out.fz 4
  have f5 := HK4.out.fz 5
  go_region
  go_wp2_with fail
  go_ret
  have hk6 := (HK4.out.set (j := 4) (by simp) (.int .i64 3)).set (j := 5) (by simp) (.int .i64 3)
  refine ⟨rfl, _, ?_, hk6, ((HO4.out.setCell (p := ⟨l, 4, none⟩) (.inl rfl) (.int .i64 3)).setCell (p := ⟨l, 5, none⟩) (.inl rfl) (.int .i64 3)).drew⟩
  exact HW4.out.kept (fun g hg => by
    have h1 := HOW.out.base hg
    exact (Below.heap_setCell (w4.setCell ⟨l, 4, none⟩ (.int .i64 3)) ⟨l, 5, none⟩ (.int .i64 3) g (by simp only []; omega)).trans (Below.heap_setCell w4 ⟨l, 4, none⟩ (.int .i64 3) g (by simp only []; omega)))
end
end Go.Proofs.YtklaeecegkpgmaaGreatDoor
