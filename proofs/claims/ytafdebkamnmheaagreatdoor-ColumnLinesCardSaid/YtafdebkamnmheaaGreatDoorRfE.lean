import Derived.Test.YtafdebkamnmheaaGreatDoorJt
import Derived.Test.YtafdebkamnmheaaGreatDoorUnB
/- The reference's log: Add of the three changes of a first insertion. -/
namespace Go.Proofs.YtafdebkamnmheaaGreatDoor
open Go.RowKit
set_option linter.unusedVariables false
set_option linter.unusedSimpArgs false
section
variable {w w' : World} {l B : Nat}
set_option maxRecDepth 100000 in
set_option maxHeartbeats 4000000 in
theorem raddA (hB : B ≤ w.heap.size) (hlB : l < B) (h : Blk w l 133 (rlC (.slice none 0 0) 0)) :
    Calls Tryz.prog 136 #[pAt l, chV (6, 0, 0)] w fun e w' => e = .returned (.int .i64 0) ∧ ∃ v', ROwn chC 153 9 B w' v' ([] ++ [(6, 0, 0)]) ∧ Blk w' l 133 (rlC v' 1) ∧ Only (fun k => k = l ∨ B ≤ k) w w' := by
  have hv : ROwn chC 153 9 B w (.slice none 0 0) [] := ROwn.nil _ _
  have hbx := below1 w (.cells #[.int .i64 6, .int .i64 0, .int .i64 0, .int .i64 0, .int .i64 0, .string ⟨#[]⟩, .int .i64 0, .int .i64 0, .bool false] 153)
  have hbk := Blk.made w 153 #[.int .i64 6, .int .i64 0, .int .i64 0, .int .i64 0, .int .i64 0, .string ⟨#[]⟩, .int .i64 0, .int .i64 0, .bool false]
  have hl0 := h.lt
  have H := Lib.hid (h.up hbx)
  have HV := Lib.hid (hv.up hbx)
  have HBX := Lib.hid hbx
  have HBK := Lib.hid hbk
  have b0 := hbk.cell (j := 0) rfl
  have b1 := hbk.cell (j := 1) rfl
  have b2 := hbk.cell (j := 2) rfl
  have b3 := hbk.cell (j := 3) rfl
  have b4 := hbk.cell (j := 4) rfl
  have b5 := hbk.cell (j := 5) rfl
  have b6 := hbk.cell (j := 6) rfl
  have b7 := hbk.cell (j := 7) rfl
  have b8 := hbk.cell (j := 8) rfl
  clear h hv hbk hbx
  go_enter Tryz.func136, Tryz.ntmps136
  go_wp2_with fail
  clear b0 b1 b2 b3 b4 b5 b6 b7 b8
  generalize w.alloc (.cells #[.int .i64 6, .int .i64 0, .int .i64 0, .int .i64 0, .int .i64 0, .string ⟨#[]⟩, .int .i64 0, .int .i64 0, .bool false] 153) = W at *
  refine (rcheck6 W).mono ?_
  rintro e w1 ⟨rfl, hb1⟩
  have H1 := Lib.hid (H.out.up hb1)
  have HV1 := Lib.hid (HV.out.up hb1)
  have HBX1 := Lib.hid (up2 HBX.out hb1)
  have HBK1 := Lib.hid (HBK.out.up hb1)
  clear hb1 H HV HBX HBK
  have b0 := (HBK1.out).cell (j := 0) rfl
  have b1 := (HBK1.out).cell (j := 1) rfl
  have b2 := (HBK1.out).cell (j := 2) rfl
  have b3 := (HBK1.out).cell (j := 3) rfl
  have b4 := (HBK1.out).cell (j := 4) rfl
  have b5 := (HBK1.out).cell (j := 5) rfl
  have b6 := (HBK1.out).cell (j := 6) rfl
  have b7 := (HBK1.out).cell (j := 7) rfl
  have b8 := (HBK1.out).cell (j := 8) rfl
  have l1 := H1.out.cell (j := 1) rfl
  go_wp2_with fail
  go_region
  go_wp2_with fail
  clear b0 b1 b2 b3 b4 b5 b6 b7 b8 l1
  have q5 : ∀ x : UpW w1.heap.size w1.drew, x.w.cell? ⟨l, 5, none⟩ = some (.int .i64 0) := fun x => (H1.out.up ((Below.refl _ w1).drew.trans x.up)).cell (j := 5) rfl
  have qb : ∀ x : UpW w1.heap.size w1.drew, Blk x.w w.heap.size 153 _ := fun x => HBK1.out.up ((Below.refl _ w1).drew.trans x.up)
  have b0 := fun x => (qb x).cell (j := 0) rfl
  have b1 := fun x => (qb x).cell (j := 1) rfl
  have b2 := fun x => (qb x).cell (j := 2) rfl
  have b3 := fun x => (qb x).cell (j := 3) rfl
  have b4 := fun x => (qb x).cell (j := 4) rfl
  have b5 := fun x => (qb x).cell (j := 5) rfl
  have b6 := fun x => (qb x).cell (j := 6) rfl
  have b7 := fun x => (qb x).cell (j := 7) rfl
  have b8 := fun x => (qb x).cell (j := 8) rfl
  clear qb
  have HC := Lib.hid fun (W : World) => rcost 6 0 0 (by simp) W
  have HCX := Lib.hid fun (x : UpW w1.heap.size w1.drew) => rcost 6 0 0 (by simp) x.w
  refine wp_region_up w1.heap.size (by kernel_rfl) (by kernel_rfl) ?_
  repeat (go_big_quiet_step (exact Calls.up ‹_› (Nat.le_refl _) (HCX.out _)))
  refine wpQuiet_nil ?_
  rintro ⟨w2, hb2⟩
  dsimp only
  clear q5 b0 b1 b2 b3 b4 b5 b6 b7 b8
  have hb2' : Below w1.heap.size w1 w2 := (Below.refl _ w1).drew.trans hb2
  have H2 := Lib.hid (H1.out.up hb2')
  have HV2 := Lib.hid (HV1.out.up hb2')
  have HBX2 := Lib.hid (up2 HBX1.out hb2')
  have HBK2 := Lib.hid (HBK1.out.up hb2')
  clear hb2 hb2' H1 HV1 HBX1 HBK1
  go_wp2_with fail
  obtain ⟨VV, hVV⟩ : ∃ VV : Value, VV = (.slice none 0 0) := ⟨_, rfl⟩
  have hVB : ∀ k, VV.ownBlock = some k → B ≤ k ∧ k < w.heap.size := by
    intro k hk
    subst hVV
    simp [Value.ownBlock] at hk
    skip
  obtain ⟨v', w3, happ, hown3, hb3, ho3, hblk3⟩ := append_elem eltC (B := B) (w := w2.drew) (hVV ▸ (HV2.out.up ((Below.refl _ w2).drew)) : ROwn chC 153 9 B w2.drew VV []) (Nat.le_trans hB HBX2.out.size) (6, 0, 0) (by simp) (by omega)
  have HP := Lib.hid happ
  have HO3 : Hid (Only (fun k => VV.ownBlock = some k) w2 w3) := Lib.hid (((Only.refl _ w2).drew).trans ho3)
  have hon : Only (fun k => VV.ownBlock = some k) w w3 := (Only.of_below HBX2.out).trans HO3.out
  have HON := Lib.hid hon
  have hlV : ¬ VV.ownBlock = some l := fun hk => by have := (hVB l hk).1; omega
  have C1 : ∀ x : OnW (fun k => VV.ownBlock = some k) w2, x.w.cell? ⟨l, 1, none⟩ = some (.slice none 0 0) := fun x => (H2.out.only x.on hlV).cell (j := 1) rfl
  have C5 : ∀ x : OnW (fun k => VV.ownBlock = some k) w2, x.w.cell? ⟨l, 5, none⟩ = some (.int .i64 0) := fun x => (H2.out.only x.on hlV).cell (j := 5) rfl
  have CB : ∀ x : OnW (fun k => VV.ownBlock = some k) w2, Blk x.w w.heap.size 153 _ := fun x => HBK2.out.only x.on (fun hk => by have := (hVB _ hk).2; omega)
  have b0 := fun x => (CB x).cell (j := 0) rfl
  have b1 := fun x => (CB x).cell (j := 1) rfl
  have b2 := fun x => (CB x).cell (j := 2) rfl
  have b3 := fun x => (CB x).cell (j := 3) rfl
  have b4 := fun x => (CB x).cell (j := 4) rfl
  have b5 := fun x => (CB x).cell (j := 5) rfl
  have b6 := fun x => (CB x).cell (j := 6) rfl
  have b7 := fun x => (CB x).cell (j := 7) rfl
  have b8 := fun x => (CB x).cell (j := 8) rfl
  have CD : ∀ x : OnW (fun k => VV.ownBlock = some k ∨ k = l) w2, Blk x.w w.heap.size 153 _ := fun x => HBK2.out.only x.on (fun hk => by rcases hk with hk | hk; (have := (hVB _ hk).2; omega); omega)
  have d0 := fun x => (CD x).cell (j := 0) rfl
  have d1 := fun x => (CD x).cell (j := 1) rfl
  have d2 := fun x => (CD x).cell (j := 2) rfl
  have d3 := fun x => (CD x).cell (j := 3) rfl
  have d4 := fun x => (CD x).cell (j := 4) rfl
  have d5 := fun x => (CD x).cell (j := 5) rfl
  have d6 := fun x => (CD x).cell (j := 6) rfl
  have d7 := fun x => (CD x).cell (j := 7) rfl
  have d8 := fun x => (CD x).cell (j := 8) rfl
  clear CB CD happ ho3 hon hb3
  refine wp_region_mixS2 (fun k => VV.ownBlock = some k) (fun k => VV.ownBlock = some k ∨ k = l) (fun k hk => .inl hk) [18, 21] (.one [(0, true), (1, false), (2, true), (3, true), (4, true), (5, true), (6, true), (9, false), (10, false), (11, false), (12, true), (13, false)] 7 (.one [] 8 (.one [] 14 (.one [(15, false), (16, false), (17, true)] 18 (.one [(19, false), (20, false)] 21 (.done [])))))) (by kernel_rfl) (fun c d v a w h => by cases d <;> exact h) (by kernel_rfl) ?_
  simp only [wpMixS, wpQ2, pk_nil, pk_cons, pushAt_zero, pushAt_succ, List.contains_cons, List.contains_nil, Bool.false_or, Bool.or_false, Bool.true_or, Bool.or_true, Nat.reduceBEq, Nat.reduceEqDiff]
  repeat (first | go_big_quiet_step (fail) | refine wpQuiet_nil ?_)
  clear b0 b1 b2 b3 b4 b5 b6 b7 b8 d0 d1 d2 d3 d4 d5 d6 d7 d8 C1 C5
  subst hVV
  go_wp2_with fail
  refine thenQ_normal ⟨⟨⟨_, (Only.refl _ w2).drew.alloc _⟩, rfl⟩, ?_⟩
  refine wpList_app_run rfl _ _ _ rfl rfl rfl HP.out ?_
  go_wp2_with fail
  refine thenQ_normal ⟨⟨⟨_, HO3.out⟩, rfl⟩, ?_⟩
  have hsw : w.heap.size ≤ w3.heap.size := HON.out.size
  go_wp2_with fail
  refine (HC.out w3).mono ?_
  rintro e w4 ⟨rfl, hb4⟩
  have HO4 : Hid (Only _ w2 w4) := Lib.hid (HO3.out.trans (Only.of_below hb4))
  have HW4 := Lib.hid (hown3.up hb4)
  have HK4 := Lib.hid ((H2.out.only HO3.out hlV).up hb4)
  have hon4 := HON.out.trans (Only.of_below hb4)
  have HON4 := Lib.hid hon4
  go_wp2_with fail
  refine thenQ_normal ⟨⟨⟨_, HO4.out⟩, rfl⟩, ?_⟩
  repeat (first | go_big_quiet_step (fail) | refine wpQuiet_nil ?_)
  obtain ⟨A', cap', rfl, _, _, _⟩ := hown3.shape eltC
  clear hown3
  have f1 := HK4.out.fz 1
  have f5 := HK4.out.fz 5
  have k1 := HK4.out.cell (j := 1) rfl
  have k5 := HK4.out.cell (j := 5) rfl
  have hk6 := (HK4.out.set (j := 1) (by simp) (.slice A' 1 cap')).set (j := 5) (by simp) (.int .i64 1)
  have HK6 := Lib.hid hk6
  have HO6 := Lib.hid (((HON4.out.mono (T := fun k => k = l ∨ B ≤ k) (fun k hk => .inr (hVB k hk).1)).setCell (p := ⟨l, 1, none⟩) (.inl rfl) (.slice A' 1 cap')).setCell (p := ⟨l, 5, none⟩) (.inl rfl) (.int .i64 1))
  have HT := Lib.hid (HO4.out.mono (T := fun k => _ ∨ k = l) (fun k hk => .inl hk))
  clear hk6 hon4 HON HON4
  go_wp2_with fail
  refine thenQ_normal ⟨⟨⟨_, HT.out.setCell (p := ⟨l, 1, none⟩) (.inr rfl) _⟩, rfl⟩, ?_⟩
  repeat (first | go_big_quiet_step (fail) | refine wpQuiet_nil ?_)
  go_wp2_with fail
  refine thenQ_normal ⟨⟨⟨_, (HT.out.setCell (p := ⟨l, 1, none⟩) (.inr rfl) _).setCell (p := ⟨l, 5, none⟩) (.inr rfl) _⟩, rfl⟩, ?_⟩
  clear f1 f5 k1 k5
  go_wp2_with fail
  go_ret
  refine ⟨rfl, _, ?_, HK6.out, HO6.out⟩
  exact HW4.out.kept (fun g hg => by
    have h1 := HW4.out.base hg
    exact (Below.heap_setCell (w4.setCell ⟨l, 1, none⟩ (.slice A' 1 cap')) ⟨l, 5, none⟩ (.int .i64 1) g (by simp only []; omega)).trans (Below.heap_setCell w4 ⟨l, 1, none⟩ (.slice A' 1 cap') g (by simp only []; omega)))
set_option maxRecDepth 100000 in
set_option maxHeartbeats 4000000 in
theorem raddB {v : Value} (hB : B ≤ w.heap.size) (hlB : l < B) (hv : ROwn chC 153 9 B w v [(6, 0, 0)]) (h : Blk w l 133 (rlC v 1)) :
    Calls Tryz.prog 136 #[pAt l, chV (4, 1, 0)] w fun e w' => e = .returned (.int .i64 0) ∧ ∃ v', ROwn chC 153 9 B w' v' ([(6, 0, 0)] ++ [(4, 1, 0)]) ∧ Blk w' l 133 (rlC v' 2) ∧ Only (fun k => k = l ∨ B ≤ k) w w' := by
  obtain ⟨g, cap, rfl, hcap1, hcap2, hgB, hgl, _, hat⟩ := hv.lies eltC (by simp)
  clear hat
  have hbx := below1 w (.cells #[.int .i64 4, .int .i64 1, .int .i64 0, .int .i64 0, .int .i64 0, .string ⟨#[]⟩, .int .i64 0, .int .i64 0, .bool false] 153)
  have hbk := Blk.made w 153 #[.int .i64 4, .int .i64 1, .int .i64 0, .int .i64 0, .int .i64 0, .string ⟨#[]⟩, .int .i64 0, .int .i64 0, .bool false]
  have hl0 := h.lt
  have H := Lib.hid (h.up hbx)
  have HV := Lib.hid (hv.up hbx)
  have HBX := Lib.hid hbx
  have HBK := Lib.hid hbk
  have b0 := hbk.cell (j := 0) rfl
  have b1 := hbk.cell (j := 1) rfl
  have b2 := hbk.cell (j := 2) rfl
  have b3 := hbk.cell (j := 3) rfl
  have b4 := hbk.cell (j := 4) rfl
  have b5 := hbk.cell (j := 5) rfl
  have b6 := hbk.cell (j := 6) rfl
  have b7 := hbk.cell (j := 7) rfl
  have b8 := hbk.cell (j := 8) rfl
  clear h hv hbk hbx
  go_enter Tryz.func136, Tryz.ntmps136
  go_wp2_with fail
  clear b0 b1 b2 b3 b4 b5 b6 b7 b8
  generalize w.alloc (.cells #[.int .i64 4, .int .i64 1, .int .i64 0, .int .i64 0, .int .i64 0, .string ⟨#[]⟩, .int .i64 0, .int .i64 0, .bool false] 153) = W at *
  refine (rcheck4 1 (by omega) (by omega) W).mono ?_
  rintro e w1 ⟨rfl, hb1⟩
  have H1 := Lib.hid (H.out.up hb1)
  have HV1 := Lib.hid (HV.out.up hb1)
  have HBX1 := Lib.hid (up2 HBX.out hb1)
  have HBK1 := Lib.hid (HBK.out.up hb1)
  clear hb1 H HV HBX HBK
  have b0 := (HBK1.out).cell (j := 0) rfl
  have b1 := (HBK1.out).cell (j := 1) rfl
  have b2 := (HBK1.out).cell (j := 2) rfl
  have b3 := (HBK1.out).cell (j := 3) rfl
  have b4 := (HBK1.out).cell (j := 4) rfl
  have b5 := (HBK1.out).cell (j := 5) rfl
  have b6 := (HBK1.out).cell (j := 6) rfl
  have b7 := (HBK1.out).cell (j := 7) rfl
  have b8 := (HBK1.out).cell (j := 8) rfl
  have l1 := H1.out.cell (j := 1) rfl
  go_wp2_with fail
  go_region
  go_wp2_with fail
  clear b0 b1 b2 b3 b4 b5 b6 b7 b8 l1
  have q5 : ∀ x : UpW w1.heap.size w1.drew, x.w.cell? ⟨l, 5, none⟩ = some (.int .i64 1) := fun x => (H1.out.up ((Below.refl _ w1).drew.trans x.up)).cell (j := 5) rfl
  have qb : ∀ x : UpW w1.heap.size w1.drew, Blk x.w w.heap.size 153 _ := fun x => HBK1.out.up ((Below.refl _ w1).drew.trans x.up)
  have b0 := fun x => (qb x).cell (j := 0) rfl
  have b1 := fun x => (qb x).cell (j := 1) rfl
  have b2 := fun x => (qb x).cell (j := 2) rfl
  have b3 := fun x => (qb x).cell (j := 3) rfl
  have b4 := fun x => (qb x).cell (j := 4) rfl
  have b5 := fun x => (qb x).cell (j := 5) rfl
  have b6 := fun x => (qb x).cell (j := 6) rfl
  have b7 := fun x => (qb x).cell (j := 7) rfl
  have b8 := fun x => (qb x).cell (j := 8) rfl
  clear qb
  have HC := Lib.hid fun (W : World) => rcost 4 1 0 (by simp) W
  have HCX := Lib.hid fun (x : UpW w1.heap.size w1.drew) => rcost 4 1 0 (by simp) x.w
  refine wp_region_up w1.heap.size (by kernel_rfl) (by kernel_rfl) ?_
  repeat (go_big_quiet_step (exact Calls.up ‹_› (Nat.le_refl _) (HCX.out _)))
  refine wpQuiet_nil ?_
  rintro ⟨w2, hb2⟩
  dsimp only
  clear q5 b0 b1 b2 b3 b4 b5 b6 b7 b8
  have hb2' : Below w1.heap.size w1 w2 := (Below.refl _ w1).drew.trans hb2
  have H2 := Lib.hid (H1.out.up hb2')
  have HV2 := Lib.hid (HV1.out.up hb2')
  have HBX2 := Lib.hid (up2 HBX1.out hb2')
  have HBK2 := Lib.hid (HBK1.out.up hb2')
  clear hb2 hb2' H1 HV1 HBX1 HBK1
  go_wp2_with fail
  obtain ⟨VV, hVV⟩ : ∃ VV : Value, VV = (.slice (some ⟨g, 0, none⟩) 1 cap) := ⟨_, rfl⟩
  have hVB : ∀ k, VV.ownBlock = some k → B ≤ k ∧ k < w.heap.size := by
    intro k hk
    subst hVV
    simp [Value.ownBlock] at hk
    exact hk ▸ ⟨hgB, hgl⟩
  obtain ⟨v', w3, happ, hown3, hb3, ho3, hblk3⟩ := append_elem eltC (B := B) (w := w2.drew) (hVV ▸ (HV2.out.up ((Below.refl _ w2).drew)) : ROwn chC 153 9 B w2.drew VV [(6, 0, 0)]) (Nat.le_trans hB HBX2.out.size) (4, 1, 0) (by simp) (by omega)
  have HP := Lib.hid happ
  have HO3 : Hid (Only (fun k => VV.ownBlock = some k) w2 w3) := Lib.hid (((Only.refl _ w2).drew).trans ho3)
  have hon : Only (fun k => VV.ownBlock = some k) w w3 := (Only.of_below HBX2.out).trans HO3.out
  have HON := Lib.hid hon
  have hlV : ¬ VV.ownBlock = some l := fun hk => by have := (hVB l hk).1; omega
  have C1 : ∀ x : OnW (fun k => VV.ownBlock = some k) w2, x.w.cell? ⟨l, 1, none⟩ = some (.slice (some ⟨g, 0, none⟩) 1 cap) := fun x => (H2.out.only x.on hlV).cell (j := 1) rfl
  have C5 : ∀ x : OnW (fun k => VV.ownBlock = some k) w2, x.w.cell? ⟨l, 5, none⟩ = some (.int .i64 1) := fun x => (H2.out.only x.on hlV).cell (j := 5) rfl
  have CB : ∀ x : OnW (fun k => VV.ownBlock = some k) w2, Blk x.w w.heap.size 153 _ := fun x => HBK2.out.only x.on (fun hk => by have := (hVB _ hk).2; omega)
  have b0 := fun x => (CB x).cell (j := 0) rfl
  have b1 := fun x => (CB x).cell (j := 1) rfl
  have b2 := fun x => (CB x).cell (j := 2) rfl
  have b3 := fun x => (CB x).cell (j := 3) rfl
  have b4 := fun x => (CB x).cell (j := 4) rfl
  have b5 := fun x => (CB x).cell (j := 5) rfl
  have b6 := fun x => (CB x).cell (j := 6) rfl
  have b7 := fun x => (CB x).cell (j := 7) rfl
  have b8 := fun x => (CB x).cell (j := 8) rfl
  have CD : ∀ x : OnW (fun k => VV.ownBlock = some k ∨ k = l) w2, Blk x.w w.heap.size 153 _ := fun x => HBK2.out.only x.on (fun hk => by rcases hk with hk | hk; (have := (hVB _ hk).2; omega); omega)
  have d0 := fun x => (CD x).cell (j := 0) rfl
  have d1 := fun x => (CD x).cell (j := 1) rfl
  have d2 := fun x => (CD x).cell (j := 2) rfl
  have d3 := fun x => (CD x).cell (j := 3) rfl
  have d4 := fun x => (CD x).cell (j := 4) rfl
  have d5 := fun x => (CD x).cell (j := 5) rfl
  have d6 := fun x => (CD x).cell (j := 6) rfl
  have d7 := fun x => (CD x).cell (j := 7) rfl
  have d8 := fun x => (CD x).cell (j := 8) rfl
  clear CB CD happ ho3 hon hb3
  refine wp_region_mixS2 (fun k => VV.ownBlock = some k) (fun k => VV.ownBlock = some k ∨ k = l) (fun k hk => .inl hk) [18, 21] (.one [(0, true), (1, false), (2, true), (3, true), (4, true), (5, true), (6, true), (9, false), (10, false), (11, false), (12, true), (13, false)] 7 (.one [] 8 (.one [] 14 (.one [(15, false), (16, false), (17, true)] 18 (.one [(19, false), (20, false)] 21 (.done [])))))) (by kernel_rfl) (fun c d v a w h => by cases d <;> exact h) (by kernel_rfl) ?_
  simp only [wpMixS, wpQ2, pk_nil, pk_cons, pushAt_zero, pushAt_succ, List.contains_cons, List.contains_nil, Bool.false_or, Bool.or_false, Bool.true_or, Bool.or_true, Nat.reduceBEq, Nat.reduceEqDiff]
  repeat (first | go_big_quiet_step (fail) | refine wpQuiet_nil ?_)
  clear b0 b1 b2 b3 b4 b5 b6 b7 b8 d0 d1 d2 d3 d4 d5 d6 d7 d8 C1 C5
  subst hVV
  go_wp2_with fail
  refine thenQ_normal ⟨⟨⟨_, (Only.refl _ w2).drew.alloc _⟩, rfl⟩, ?_⟩
  refine wpList_app_run rfl _ _ _ rfl rfl rfl HP.out ?_
  go_wp2_with fail
  refine thenQ_normal ⟨⟨⟨_, HO3.out⟩, rfl⟩, ?_⟩
  have hsw : w.heap.size ≤ w3.heap.size := HON.out.size
  go_wp2_with fail
  refine (HC.out w3).mono ?_
  rintro e w4 ⟨rfl, hb4⟩
  have HO4 : Hid (Only _ w2 w4) := Lib.hid (HO3.out.trans (Only.of_below hb4))
  have HW4 := Lib.hid (hown3.up hb4)
  have HK4 := Lib.hid ((H2.out.only HO3.out hlV).up hb4)
  have hon4 := HON.out.trans (Only.of_below hb4)
  have HON4 := Lib.hid hon4
  go_wp2_with fail
  refine thenQ_normal ⟨⟨⟨_, HO4.out⟩, rfl⟩, ?_⟩
  repeat (first | go_big_quiet_step (fail) | refine wpQuiet_nil ?_)
  obtain ⟨A', cap', rfl, _, _, _⟩ := hown3.shape eltC
  clear hown3
  have f1 := HK4.out.fz 1
  have f5 := HK4.out.fz 5
  have k1 := HK4.out.cell (j := 1) rfl
  have k5 := HK4.out.cell (j := 5) rfl
  have hk6 := (HK4.out.set (j := 1) (by simp) (.slice A' 2 cap')).set (j := 5) (by simp) (.int .i64 2)
  have HK6 := Lib.hid hk6
  have HO6 := Lib.hid (((HON4.out.mono (T := fun k => k = l ∨ B ≤ k) (fun k hk => .inr (hVB k hk).1)).setCell (p := ⟨l, 1, none⟩) (.inl rfl) (.slice A' 2 cap')).setCell (p := ⟨l, 5, none⟩) (.inl rfl) (.int .i64 2))
  have HT := Lib.hid (HO4.out.mono (T := fun k => _ ∨ k = l) (fun k hk => .inl hk))
  clear hk6 hon4 HON HON4
  go_wp2_with fail
  refine thenQ_normal ⟨⟨⟨_, HT.out.setCell (p := ⟨l, 1, none⟩) (.inr rfl) _⟩, rfl⟩, ?_⟩
  repeat (first | go_big_quiet_step (fail) | refine wpQuiet_nil ?_)
  go_wp2_with fail
  refine thenQ_normal ⟨⟨⟨_, (HT.out.setCell (p := ⟨l, 1, none⟩) (.inr rfl) _).setCell (p := ⟨l, 5, none⟩) (.inr rfl) _⟩, rfl⟩, ?_⟩
  clear f1 f5 k1 k5
  go_wp2_with fail
  go_ret
  refine ⟨rfl, _, ?_, HK6.out, HO6.out⟩
  exact HW4.out.kept (fun g hg => by
    have h1 := HW4.out.base hg
    exact (Below.heap_setCell (w4.setCell ⟨l, 1, none⟩ (.slice A' 2 cap')) ⟨l, 5, none⟩ (.int .i64 2) g (by simp only []; omega)).trans (Below.heap_setCell w4 ⟨l, 1, none⟩ (.slice A' 2 cap') g (by simp only []; omega)))
set_option maxRecDepth 100000 in
set_option maxHeartbeats 4000000 in
theorem raddC {v : Value} (q : Nat) (hq : 1 ≤ q) (hq2 : q ≤ 100000000) (hB : B ≤ w.heap.size) (hlB : l < B) (hv : ROwn chC 153 9 B w v [(6, 0, 0), (4, 1, 0)]) (h : Blk w l 133 (rlC v 2)) :
    Calls Tryz.prog 136 #[pAt l, chV (1, 1, (q : Int))] w fun e w' => e = .returned (.int .i64 0) ∧ ∃ v', ROwn chC 153 9 B w' v' ([(6, 0, 0), (4, 1, 0)] ++ [(1, 1, (q : Int))]) ∧ Blk w' l 133 (rlC v' 3) ∧ Only (fun k => k = l ∨ B ≤ k) w w' := by
  obtain ⟨g, cap, rfl, hcap1, hcap2, hgB, hgl, _, hat⟩ := hv.lies eltC (by simp)
  have hc9 : w.cell? ⟨g, 9, none⟩ = some (.int .i64 4) := hat 1 (4, 1, 0) 0 _ rfl rfl
  clear hat
  have hbx := below1 w (.cells #[.int .i64 1, .int .i64 1, .int .i64 (q : Int), .int .i64 0, .int .i64 0, .string ⟨#[]⟩, .int .i64 0, .int .i64 0, .bool false] 153)
  have hbk := Blk.made w 153 #[.int .i64 1, .int .i64 1, .int .i64 (q : Int), .int .i64 0, .int .i64 0, .string ⟨#[]⟩, .int .i64 0, .int .i64 0, .bool false]
  have hl0 := h.lt
  have H := Lib.hid (h.up hbx)
  have HV := Lib.hid (hv.up hbx)
  have HBX := Lib.hid hbx
  have HBK := Lib.hid hbk
  have b0 := hbk.cell (j := 0) rfl
  have b1 := hbk.cell (j := 1) rfl
  have b2 := hbk.cell (j := 2) rfl
  have b3 := hbk.cell (j := 3) rfl
  have b4 := hbk.cell (j := 4) rfl
  have b5 := hbk.cell (j := 5) rfl
  have b6 := hbk.cell (j := 6) rfl
  have b7 := hbk.cell (j := 7) rfl
  have b8 := hbk.cell (j := 8) rfl
  clear h hv hbk hbx
  go_enter Tryz.func136, Tryz.ntmps136
  go_wp2_with fail
  clear b0 b1 b2 b3 b4 b5 b6 b7 b8
  generalize w.alloc (.cells #[.int .i64 1, .int .i64 1, .int .i64 (q : Int), .int .i64 0, .int .i64 0, .string ⟨#[]⟩, .int .i64 0, .int .i64 0, .bool false] 153) = W at *
  refine (rcheck1 1 q (by omega) hq (by omega) W).mono ?_
  rintro e w1 ⟨rfl, hb1⟩
  have H1 := Lib.hid (H.out.up hb1)
  have HV1 := Lib.hid (HV.out.up hb1)
  have HBX1 := Lib.hid (up2 HBX.out hb1)
  have HBK1 := Lib.hid (HBK.out.up hb1)
  clear hb1 H HV HBX HBK
  have b0 := (HBK1.out).cell (j := 0) rfl
  have b1 := (HBK1.out).cell (j := 1) rfl
  have b2 := (HBK1.out).cell (j := 2) rfl
  have b3 := (HBK1.out).cell (j := 3) rfl
  have b4 := (HBK1.out).cell (j := 4) rfl
  have b5 := (HBK1.out).cell (j := 5) rfl
  have b6 := (HBK1.out).cell (j := 6) rfl
  have b7 := (HBK1.out).cell (j := 7) rfl
  have b8 := (HBK1.out).cell (j := 8) rfl
  have l1 := H1.out.cell (j := 1) rfl
  have hlk : w1.cell? ⟨g, 9, none⟩ = some (.int .i64 4) := (World.cell?_of_block (w := w) (a := ⟨g, 9, none⟩) (HBX1.out.block g hgl)).trans hc9
  go_wp2_with fail
  go_region
  go_wp2_with fail
  clear b0 b1 b2 b3 b4 b5 b6 b7 b8 l1 hlk
  have q5 : ∀ x : UpW w1.heap.size w1.drew, x.w.cell? ⟨l, 5, none⟩ = some (.int .i64 2) := fun x => (H1.out.up ((Below.refl _ w1).drew.trans x.up)).cell (j := 5) rfl
  have qb : ∀ x : UpW w1.heap.size w1.drew, Blk x.w w.heap.size 153 _ := fun x => HBK1.out.up ((Below.refl _ w1).drew.trans x.up)
  have b0 := fun x => (qb x).cell (j := 0) rfl
  have b1 := fun x => (qb x).cell (j := 1) rfl
  have b2 := fun x => (qb x).cell (j := 2) rfl
  have b3 := fun x => (qb x).cell (j := 3) rfl
  have b4 := fun x => (qb x).cell (j := 4) rfl
  have b5 := fun x => (qb x).cell (j := 5) rfl
  have b6 := fun x => (qb x).cell (j := 6) rfl
  have b7 := fun x => (qb x).cell (j := 7) rfl
  have b8 := fun x => (qb x).cell (j := 8) rfl
  clear qb
  have HC := Lib.hid fun (W : World) => rcost 1 1 (q : Int) (by simp) W
  have HCX := Lib.hid fun (x : UpW w1.heap.size w1.drew) => rcost 1 1 (q : Int) (by simp) x.w
  refine wp_region_up w1.heap.size (by kernel_rfl) (by kernel_rfl) ?_
  repeat (go_big_quiet_step (exact Calls.up ‹_› (Nat.le_refl _) (HCX.out _)))
  refine wpQuiet_nil ?_
  rintro ⟨w2, hb2⟩
  dsimp only
  clear q5 b0 b1 b2 b3 b4 b5 b6 b7 b8
  have hb2' : Below w1.heap.size w1 w2 := (Below.refl _ w1).drew.trans hb2
  have H2 := Lib.hid (H1.out.up hb2')
  have HV2 := Lib.hid (HV1.out.up hb2')
  have HBX2 := Lib.hid (up2 HBX1.out hb2')
  have HBK2 := Lib.hid (HBK1.out.up hb2')
  clear hb2 hb2' H1 HV1 HBX1 HBK1
  go_wp2_with fail
  obtain ⟨VV, hVV⟩ : ∃ VV : Value, VV = (.slice (some ⟨g, 0, none⟩) 2 cap) := ⟨_, rfl⟩
  have hVB : ∀ k, VV.ownBlock = some k → B ≤ k ∧ k < w.heap.size := by
    intro k hk
    subst hVV
    simp [Value.ownBlock] at hk
    exact hk ▸ ⟨hgB, hgl⟩
  obtain ⟨v', w3, happ, hown3, hb3, ho3, hblk3⟩ := append_elem eltC (B := B) (w := w2.drew) (hVV ▸ (HV2.out.up ((Below.refl _ w2).drew)) : ROwn chC 153 9 B w2.drew VV [(6, 0, 0), (4, 1, 0)]) (Nat.le_trans hB HBX2.out.size) (1, 1, (q : Int)) (by simp) (by omega)
  have HP := Lib.hid happ
  have HO3 : Hid (Only (fun k => VV.ownBlock = some k) w2 w3) := Lib.hid (((Only.refl _ w2).drew).trans ho3)
  have hon : Only (fun k => VV.ownBlock = some k) w w3 := (Only.of_below HBX2.out).trans HO3.out
  have HON := Lib.hid hon
  have hlV : ¬ VV.ownBlock = some l := fun hk => by have := (hVB l hk).1; omega
  have C1 : ∀ x : OnW (fun k => VV.ownBlock = some k) w2, x.w.cell? ⟨l, 1, none⟩ = some (.slice (some ⟨g, 0, none⟩) 2 cap) := fun x => (H2.out.only x.on hlV).cell (j := 1) rfl
  have C5 : ∀ x : OnW (fun k => VV.ownBlock = some k) w2, x.w.cell? ⟨l, 5, none⟩ = some (.int .i64 2) := fun x => (H2.out.only x.on hlV).cell (j := 5) rfl
  have CB : ∀ x : OnW (fun k => VV.ownBlock = some k) w2, Blk x.w w.heap.size 153 _ := fun x => HBK2.out.only x.on (fun hk => by have := (hVB _ hk).2; omega)
  have b0 := fun x => (CB x).cell (j := 0) rfl
  have b1 := fun x => (CB x).cell (j := 1) rfl
  have b2 := fun x => (CB x).cell (j := 2) rfl
  have b3 := fun x => (CB x).cell (j := 3) rfl
  have b4 := fun x => (CB x).cell (j := 4) rfl
  have b5 := fun x => (CB x).cell (j := 5) rfl
  have b6 := fun x => (CB x).cell (j := 6) rfl
  have b7 := fun x => (CB x).cell (j := 7) rfl
  have b8 := fun x => (CB x).cell (j := 8) rfl
  have CD : ∀ x : OnW (fun k => VV.ownBlock = some k ∨ k = l) w2, Blk x.w w.heap.size 153 _ := fun x => HBK2.out.only x.on (fun hk => by rcases hk with hk | hk; (have := (hVB _ hk).2; omega); omega)
  have d0 := fun x => (CD x).cell (j := 0) rfl
  have d1 := fun x => (CD x).cell (j := 1) rfl
  have d2 := fun x => (CD x).cell (j := 2) rfl
  have d3 := fun x => (CD x).cell (j := 3) rfl
  have d4 := fun x => (CD x).cell (j := 4) rfl
  have d5 := fun x => (CD x).cell (j := 5) rfl
  have d6 := fun x => (CD x).cell (j := 6) rfl
  have d7 := fun x => (CD x).cell (j := 7) rfl
  have d8 := fun x => (CD x).cell (j := 8) rfl
  clear CB CD happ ho3 hon hb3
  refine wp_region_mixS2 (fun k => VV.ownBlock = some k) (fun k => VV.ownBlock = some k ∨ k = l) (fun k hk => .inl hk) [18, 21] (.one [(0, true), (1, false), (2, true), (3, true), (4, true), (5, true), (6, true), (9, false), (10, false), (11, false), (12, true), (13, false)] 7 (.one [] 8 (.one [] 14 (.one [(15, false), (16, false), (17, true)] 18 (.one [(19, false), (20, false)] 21 (.done [])))))) (by kernel_rfl) (fun c d v a w h => by cases d <;> exact h) (by kernel_rfl) ?_
  simp only [wpMixS, wpQ2, pk_nil, pk_cons, pushAt_zero, pushAt_succ, List.contains_cons, List.contains_nil, Bool.false_or, Bool.or_false, Bool.true_or, Bool.or_true, Nat.reduceBEq, Nat.reduceEqDiff]
  repeat (first | go_big_quiet_step (fail) | refine wpQuiet_nil ?_)
  clear b0 b1 b2 b3 b4 b5 b6 b7 b8 d0 d1 d2 d3 d4 d5 d6 d7 d8 C1 C5
  subst hVV
  go_wp2_with fail
  refine thenQ_normal ⟨⟨⟨_, (Only.refl _ w2).drew.alloc _⟩, rfl⟩, ?_⟩
  refine wpList_app_run rfl _ _ _ rfl rfl rfl HP.out ?_
  go_wp2_with fail
  refine thenQ_normal ⟨⟨⟨_, HO3.out⟩, rfl⟩, ?_⟩
  have hsw : w.heap.size ≤ w3.heap.size := HON.out.size
  go_wp2_with fail
  refine (HC.out w3).mono ?_
  rintro e w4 ⟨rfl, hb4⟩
  have HO4 : Hid (Only _ w2 w4) := Lib.hid (HO3.out.trans (Only.of_below hb4))
  have HW4 := Lib.hid (hown3.up hb4)
  have HK4 := Lib.hid ((H2.out.only HO3.out hlV).up hb4)
  have hon4 := HON.out.trans (Only.of_below hb4)
  have HON4 := Lib.hid hon4
  go_wp2_with fail
  refine thenQ_normal ⟨⟨⟨_, HO4.out⟩, rfl⟩, ?_⟩
  repeat (first | go_big_quiet_step (fail) | refine wpQuiet_nil ?_)
  obtain ⟨A', cap', rfl, _, _, _⟩ := hown3.shape eltC
  clear hown3
  have f1 := HK4.out.fz 1
  have f5 := HK4.out.fz 5
  have k1 := HK4.out.cell (j := 1) rfl
  have k5 := HK4.out.cell (j := 5) rfl
  have hk6 := (HK4.out.set (j := 1) (by simp) (.slice A' 3 cap')).set (j := 5) (by simp) (.int .i64 3)
  have HK6 := Lib.hid hk6
  have HO6 := Lib.hid (((HON4.out.mono (T := fun k => k = l ∨ B ≤ k) (fun k hk => .inr (hVB k hk).1)).setCell (p := ⟨l, 1, none⟩) (.inl rfl) (.slice A' 3 cap')).setCell (p := ⟨l, 5, none⟩) (.inl rfl) (.int .i64 3))
  have HT := Lib.hid (HO4.out.mono (T := fun k => _ ∨ k = l) (fun k hk => .inl hk))
  clear hk6 hon4 HON HON4
  go_wp2_with fail
  refine thenQ_normal ⟨⟨⟨_, HT.out.setCell (p := ⟨l, 1, none⟩) (.inr rfl) _⟩, rfl⟩, ?_⟩
  repeat (first | go_big_quiet_step (fail) | refine wpQuiet_nil ?_)
  go_wp2_with fail
  refine thenQ_normal ⟨⟨⟨_, (HT.out.setCell (p := ⟨l, 1, none⟩) (.inr rfl) _).setCell (p := ⟨l, 5, none⟩) (.inr rfl) _⟩, rfl⟩, ?_⟩
  clear f1 f5 k1 k5
  go_wp2_with fail
  go_ret
  refine ⟨rfl, _, ?_, HK6.out, HO6.out⟩
  exact HW4.out.kept (fun g hg => by
    have h1 := HW4.out.base hg
    exact (Below.heap_setCell (w4.setCell ⟨l, 1, none⟩ (.slice A' 3 cap')) ⟨l, 5, none⟩ (.int .i64 3) g (by simp only []; omega)).trans (Below.heap_setCell w4 ⟨l, 1, none⟩ (.slice A' 3 cap') g (by simp only []; omega)))
end
end Go.Proofs.YtafdebkamnmheaaGreatDoor
