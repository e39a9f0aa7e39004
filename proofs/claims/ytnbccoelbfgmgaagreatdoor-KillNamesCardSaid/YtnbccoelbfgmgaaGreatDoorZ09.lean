import Derived.Test.YtnbccoelbfgmgaaGreatDoorZ08
import Derived.Test.YtnbccoelbfgmgaaGreatDoorZ01
import Derived.Test.YtnbccoelbfgmgaaGreatDoorZ02
import Derived.Test.YtnbccoelbfgmgaaGreatDoorZ03
/- package undo: Add, any log: the change is appended, or goes into the last one. -/
namespace Go.Proofs.YtnbccoelbfgmgaaGreatDoor
open Go.RowKit Go.Lib
set_option linter.unusedVariables false
set_option linter.unusedSimpArgs false
abbrev logC (gv ov : Value) (ch co nw : Int) : Array Value := #[.int .i64 1048576, gv, ov, .int .i64 ch, .int .i64 co, .int .i64 nw]
section
variable {w w' : World} {N l : Nat} {gv ov : Value} {ch co nw : Int} {O : List Chg}
theorem gnoneL (h : Blk w l 173 (logC gv ov ch co nw)) : Calls Tryz.prog 116 #[.pointer (some ⟨l, 0, none⟩)] w fun e w' => e = .returned (.bool false) ∧ w = w' := by
  have c0 := h.cell (j := 0) rfl
  clear h
  go_enter Tryz.func116, Tryz.ntmps116
  go_wp2_with fail
  go_ret
  exact ⟨rfl, rfl⟩
/-- What Add turns. -/
def AddP (w : World) (l : Nat) (gv ov : Value) (ch co nw : Int) (O : List Chg) (w' : World) : Prop :=
  ∃ v', ROwn encCg 119 9 0 w' v' O ∧ Blk w' l 173 (logC gv v' ch co nw) ∧ Only (fun k => k = l ∨ ov.ownBlock = some k) w w' ∧ ∀ k, v'.ownBlock = some k → ov.ownBlock = some k ∨ w.heap.size ≤ k
set_option maxRecDepth 100000 in
set_option maxHeartbeats 4000000 in
theorem gadd_nil {c : Chg} (hok : ChgOk c) (hT : Tabs N w) (hR : Rules N w) (h : Blk w l 173 (logC gv (.slice none 0 0) ch co nw)) (h0 : 0 ≤ nw) (h1 : nw + priceC c ≤ 1048576) (h2 : 0 ≤ co) (h3 : co ≤ 100000000) :
    Calls Tryz.prog 191 #[.pointer (some ⟨l, 0, none⟩), chgV c] w fun e w' => e = .returned (.int .i64 0) ∧ AddP w l gv (.slice none 0 0) ch (co + priceC c) (nw + priceC c) ([c]) w' := by
  have hv : ROwn encCg 119 9 0 w (.slice none 0 0) [] := ROwn.nil _ _
  have hbx := below1 w (.cells (chgA c) 119)
  have hbk := Blk.made w 119 (chgA c)
  have hl0 := h.lt
  have hck := fun (w' : World) (hb : Below w.heap.size w w') => gcheck hok (hT.up hb) (hR.up hb)
  have hpr := fun (w' : World) (hb : Below w.heap.size w w') => gprice hok (hT.up hb)
  obtain ⟨P, hP⟩ : ∃ P : Nat, P = priceC c := ⟨_, rfl⟩
  rw [← hP] at h1 hpr ⊢
  have s1 : IntKind.i64.wrap (nw + (P : Int)) = nw + P := IntWalk.i64_in _ (by omega)
  have s2 : IntKind.i64.wrap (co + (P : Int)) = co + P := IntWalk.i64_in _ (by omega)
  have d1 : decide ((1048576 : Int) < nw + P) = false := decide_eq_false (by omega)
  have HPR := Lib.hid hpr
  have H := Lib.hid (h.up hbx)
  have HV := Lib.hid (hv.up hbx)
  have HBX := Lib.hid hbx
  have HBK := Lib.hid hbk
  have HCK := Lib.hid hck
  obtain ⟨k, a, b, id, nm, tx, vk, vn, had⟩ := c
  clear h hv hbk hck hok hT hR hpr h0 h1 h2 h3 hP
  have hWl : Below w.heap.size w (w.alloc (.cells (chgA ⟨k, a, b, id, nm, tx, vk, vn, had⟩) 119)) := hbx
  clear hbx hWl
  go_enter Tryz.func191, Tryz.ntmps191
  go_wp2_with fail
  generalize w.alloc (.cells (chgA ⟨k, a, b, id, nm, tx, vk, vn, had⟩) 119) = W at *
  refine (gnoneL H.out).mono ?_
  rintro e w' ⟨rfl, rfl⟩
  have b0 := HBK.out.cell (j := 0) rfl
  have b1 := HBK.out.cell (j := 1) rfl
  have b2 := HBK.out.cell (j := 2) rfl
  have b3 := HBK.out.cell (j := 3) rfl
  have b4 := HBK.out.cell (j := 4) rfl
  have b5 := HBK.out.cell (j := 5) rfl
  have b6 := HBK.out.cell (j := 6) rfl
  have b7 := HBK.out.cell (j := 7) rfl
  have b8 := HBK.out.cell (j := 8) rfl
  go_wp2_with fail
  refine (HCK.out W HBX.out).mono ?_
  rintro e w1 ⟨rfl, hb1⟩
  have H1 := Lib.hid (H.out.up hb1)
  have HV1 := Lib.hid (HV.out.up hb1)
  have HBX1 := Lib.hid (up2 HBX.out hb1)
  have HBK1 := Lib.hid (HBK.out.up hb1)
  clear b0 b1 b2 b3 b4 b5 b6 b7 b8 hb1 H HV HBX HBK HCK
  have b0 := HBK1.out.cell (j := 0) rfl
  have b1 := HBK1.out.cell (j := 1) rfl
  have b2 := HBK1.out.cell (j := 2) rfl
  have b3 := HBK1.out.cell (j := 3) rfl
  have b4 := HBK1.out.cell (j := 4) rfl
  have b5 := HBK1.out.cell (j := 5) rfl
  have b6 := HBK1.out.cell (j := 6) rfl
  have b7 := HBK1.out.cell (j := 7) rfl
  have b8 := HBK1.out.cell (j := 8) rfl
  have l2 := H1.out.cell (j := 2) rfl
  go_wp2_with fail
  go_region
  go_wp2_with fail
  refine (HPR.out w1.drew (HBX1.out.drew)).mono ?_
  rintro e w2 ⟨rfl, hb2⟩
  have hb2' : Below w1.heap.size w1 w2 := up2 ((Below.refl _ w1).drew) hb2
  have H2 := Lib.hid (H1.out.up hb2')
  have HV2 := Lib.hid (HV1.out.up hb2')
  have HBX2 := Lib.hid (up2 HBX1.out hb2')
  have HBK2 := Lib.hid (HBK1.out.up hb2')
  clear b0 b1 b2 b3 b4 b5 b6 b7 b8 hb2 hb2' H1 HV1 HBX1 HBK1 HPR l2
  have l5 := H2.out.cell (j := 5) rfl
  go_wp2_with fail
  obtain ⟨VV, hVV⟩ : ∃ VV : Value, VV = (.slice none 0 0) := ⟨_, rfl⟩
  have hVB : ∀ k, VV.ownBlock = some k → k ≠ l ∧ k < w.heap.size := by
    intro k hk
    subst hVV
    simp [Value.ownBlock] at hk
    skip
  obtain ⟨v', w3, happ, hown3, hb3, ho3, hblk3⟩ := append_elem eltCg (B := 0) (w := w2.drew) (hVV ▸ (HV2.out.up ((Below.refl _ w2).drew)) : ROwn encCg 119 9 0 w2.drew VV []) (Nat.zero_le _) ⟨k, a, b, id, nm, tx, vk, vn, had⟩ (by simp) (by omega)
  have HP := Lib.hid happ
  have HO3 : Hid (Only (fun k => VV.ownBlock = some k) w2 w3) := Lib.hid (((Only.refl _ w2).drew).trans ho3)
  have hon : Only (fun k => VV.ownBlock = some k) w w3 := (Only.of_below HBX2.out).trans HO3.out
  have HON := Lib.hid hon
  have hk3 : Blk w3 l 173 _ := H2.out.only HO3.out (fun hk => (hVB l hk).1 rfl)
  have HK3 := Lib.hid hk3
  have HB3 : Hid (∀ k, v'.ownBlock = some k → k ≠ l ∧ (VV.ownBlock = some k ∨ w.heap.size ≤ k)) := Lib.hid (fun k hk => by
    have hs2 : w.heap.size ≤ w2.heap.size := HBX2.out.size
    rcases hblk3 with e | ⟨g3, e, hg3⟩
    · rw [e] at hk; exact ⟨(hVB k hk).1, .inl hk⟩
    · rw [e] at hk; cases hk; exact ⟨by have : w2.drew.heap.size ≤ k := hg3; have : w2.drew.heap.size = w2.heap.size := rfl; omega, .inr (by have : w2.drew.heap.size ≤ k := hg3; have : w2.drew.heap.size = w2.heap.size := rfl; omega)⟩)
  have C2 : ∀ x : OnW (fun k => VV.ownBlock = some k) w2, x.w.cell? ⟨l, 2, none⟩ = some (.slice none 0 0) := fun x => (H2.out.only x.on (fun hk => (hVB l hk).1 rfl)).cell (j := 2) rfl
  have CB : ∀ x : OnW (fun k => VV.ownBlock = some k) w2, Blk x.w w.heap.size 119 _ := fun x => HBK2.out.only x.on (fun hk => by have := (hVB _ hk).2; omega)
  have b0 := fun x => (CB x).cell (j := 0) rfl
  have b1 := fun x => (CB x).cell (j := 1) rfl
  have b2 := fun x => (CB x).cell (j := 2) rfl
  have b3 := fun x => (CB x).cell (j := 3) rfl
  have b4 := fun x => (CB x).cell (j := 4) rfl
  have b5 := fun x => (CB x).cell (j := 5) rfl
  have b6 := fun x => (CB x).cell (j := 6) rfl
  have b7 := fun x => (CB x).cell (j := 7) rfl
  have b8 := fun x => (CB x).cell (j := 8) rfl
  clear CB happ ho3 hon hk3 hb3 hblk3
  refine wp_region_mixO (fun k => VV.ownBlock = some k) 10 (.one [0, 1, 2, 3, 4, 5] 6 (.one [] 7 (.done [8, 9]))) (by kernel_rfl) (fun c d v a w h => by cases d <;> exact h) (by kernel_rfl) ?_
  simp only [wpMixT, pk_nil, pk_cons, pushAt_zero, pushAt_succ, List.drop_succ_cons, List.drop_zero]
  repeat (go_big_quiet_step (fail))
  refine wpQuiet_nil ?_
  clear b0 b1 b2 b3 b4 b5 b6 b7 b8
  have HVV := Lib.hid hVV
  subst hVV
  clear HVV
  go_wp2_with fail
  refine thenQ_normal ⟨⟨⟨_, (Only.refl _ w2).drew.alloc _⟩, rfl⟩, ?_⟩
  refine wpQuiet_nil ?_
  refine wpList_app_run rfl _ _ _ rfl rfl rfl HP.out ?_
  go_wp2_with fail
  refine thenQ_normal ⟨⟨⟨_, HO3.out⟩, rfl⟩, ?_⟩
  repeat (go_big_quiet_step (fail))
  refine wpQuiet_nil ?_
  clear C2
  have HOW := Lib.hid hown3
  obtain ⟨A', cap', hv'q, _, _, _⟩ := hown3.shape eltCg
  have hll : ([] ++ [(⟨k, a, b, id, nm, tx, vk, vn, had⟩ : Chg)]).length = 1 := by simp
  rw [hll] at hv'q
  subst hv'q
  clear hown3 hll
  have f2 := HK3.out.fz 2
  have k2 := HK3.out.cell (j := 2) rfl
  have hsw : w.heap.size ≤ w3.heap.size := HON.out.size
  have hk4 := HK3.out.set (j := 2) (by simp) (.slice A' 1 cap')
  have HW4 := Lib.hid (HOW.out.kept (w' := w3.setCell ⟨l, 2, none⟩ (.slice A' 1 cap')) (fun g hg => Below.heap_setCell _ _ _ _ (HB3.out g hg).1))
  have HO4 := Lib.hid ((HON.out.mono (T := fun k => k = l ∨ (Value.slice none 0 0).ownBlock = some k) (fun k hk => .inr hk)).setCell (p := ⟨l, 2, none⟩) (.inl rfl) (.slice A' 1 cap'))
  have HK4 := Lib.hid hk4
  clear hk4
  go_wp2_with fail
  generalize w3.setCell ⟨l, 2, none⟩ (.slice A' 1 cap') = w4 at *
  have m4 := HK4.out.cell (j := 4) rfl
  have m5 := HK4.out.cell (j := 5) rfl
  have f4 := HK4.out.fz 4
  have f5 := HK4.out.fz 5
  go_region
  go_wp2_with fail
  go_ret
  have hk6 := (HK4.out.set (j := 4) (by simp) (.int .i64 (co + P))).set (j := 5) (by simp) (.int .i64 (nw + P))
  refine ⟨rfl, _, ?_, hk6, ((HO4.out.setCell (p := ⟨l, 4, none⟩) (.inl rfl) (.int .i64 (co + P))).setCell (p := ⟨l, 5, none⟩) (.inl rfl) (.int .i64 (nw + P))).drew, fun k hk => (HB3.out k hk).2⟩
  exact HW4.out.kept (fun g hg => by
    have h1 := (HB3.out g hg).1
    exact (Below.heap_setCell (w4.setCell ⟨l, 4, none⟩ (.int .i64 (co + P))) ⟨l, 5, none⟩ (.int .i64 (nw + P)) g h1).trans (Below.heap_setCell w4 ⟨l, 4, none⟩ (.int .i64 (co + P)) g h1))
set_option maxRecDepth 100000 in
set_option maxHeartbeats 4000000 in
theorem gadd_n1 {c : Chg} {x : Chg} {K : Nat} (hv : ROwn encCg 119 9 0 w ov O) (hx : O[K]? = some x) (hK : O.length = K + 1) (hOl : O.length ≤ 1000000) (hsep : ∀ k, ov.ownBlock = some k → k ≠ l) (hc : c.k ≠ 1) (hok : ChgOk c) (hT : Tabs N w) (hR : Rules N w) (h : Blk w l 173 (logC gv (ov) ch co nw)) (h0 : 0 ≤ nw) (h1 : nw + priceC c ≤ 1048576) (h2 : 0 ≤ co) (h3 : co ≤ 100000000) :
    Calls Tryz.prog 191 #[.pointer (some ⟨l, 0, none⟩), chgV c] w fun e w' => e = .returned (.int .i64 0) ∧ AddP w l gv (ov) ch (co + priceC c) (nw + priceC c) (O ++ [c]) w' := by
  have hwf : ∀ k, ov.ownBlock = some k → k < w.heap.size := fun k hk => hv.lt hk
  obtain ⟨g, cap, rfl, hcap1, hcap2, hgB, hgl, hfz, hat⟩ := hv.lies eltCg (by omega)
  have hgl2 : g ≠ l := hsep g rfl
  have hlk : w.cell? ⟨g, K * 9, none⟩ = some (.int .i64 x.k) := hat K x 0 _ hx rfl
  have hlb : w.cell? ⟨g, K * 9 + 2, none⟩ = some (.int .i64 x.b) := hat K x 2 _ hx rfl
  clear hat
  have hbx := below1 w (.cells (chgA c) 119)
  have hbk := Blk.made w 119 (chgA c)
  have hl0 := h.lt
  have hck := fun (w' : World) (hb : Below w.heap.size w w') => gcheck hok (hT.up hb) (hR.up hb)
  have hpr := fun (w' : World) (hb : Below w.heap.size w w') => gprice hok (hT.up hb)
  obtain ⟨P, hP⟩ : ∃ P : Nat, P = priceC c := ⟨_, rfl⟩
  rw [← hP] at h1 hpr ⊢
  have s1 : IntKind.i64.wrap (nw + (P : Int)) = nw + P := IntWalk.i64_in _ (by omega)
  have s2 : IntKind.i64.wrap (co + (P : Int)) = co + P := IntWalk.i64_in _ (by omega)
  have d1 : decide ((1048576 : Int) < nw + P) = false := decide_eq_false (by omega)
  have HPR := Lib.hid hpr
  have s3 : IntKind.i64.wrap ((O.length : Int) - 1) = (K : Int) := by rw [IntWalk.i64_in _ (by omega)]; omega
  have hKl : K < O.length := by omega
  have d0 : decide ((0 : Int) ≤ (K : Int)) = true := decide_eq_true (by omega)
  have H := Lib.hid (h.up hbx)
  have HV := Lib.hid (hv.up hbx)
  have HBX := Lib.hid hbx
  have HBK := Lib.hid hbk
  have HCK := Lib.hid hck
  obtain ⟨k, a, b, id, nm, tx, vk, vn, had⟩ := c
  dsimp only at hc
  have e1 : ((k : Int) == 1) = false := by simpa using hc
  have e2 : (k = 1) = False := eq_false hc
  clear h hv hbk hck hok hT hR hpr h0 h1 h2 h3 hP hwf hcap1 hgB
  clear hc
  have HLK := Lib.hid (⟨hlk, hlb, hx, hK, hfz, hcap2, hOl, hgl⟩ : _ ∧ _ ∧ _ ∧ _ ∧ _ ∧ _ ∧ _ ∧ _)
  clear hlk hlb hx hK hfz hcap2 hOl hsep
  have hWl : Below w.heap.size w (w.alloc (.cells (chgA ⟨k, a, b, id, nm, tx, vk, vn, had⟩) 119)) := hbx
  clear hbx hWl
  go_enter Tryz.func191, Tryz.ntmps191
  go_wp2_with fail
  generalize w.alloc (.cells (chgA ⟨k, a, b, id, nm, tx, vk, vn, had⟩) 119) = W at *
  refine (gnoneL H.out).mono ?_
  rintro e w' ⟨rfl, rfl⟩
  have b0 := HBK.out.cell (j := 0) rfl
  have b1 := HBK.out.cell (j := 1) rfl
  have b2 := HBK.out.cell (j := 2) rfl
  have b3 := HBK.out.cell (j := 3) rfl
  have b4 := HBK.out.cell (j := 4) rfl
  have b5 := HBK.out.cell (j := 5) rfl
  have b6 := HBK.out.cell (j := 6) rfl
  have b7 := HBK.out.cell (j := 7) rfl
  have b8 := HBK.out.cell (j := 8) rfl
  go_wp2_with fail
  refine (HCK.out W HBX.out).mono ?_
  rintro e w1 ⟨rfl, hb1⟩
  have H1 := Lib.hid (H.out.up hb1)
  have HV1 := Lib.hid (HV.out.up hb1)
  have HBX1 := Lib.hid (up2 HBX.out hb1)
  have HBK1 := Lib.hid (HBK.out.up hb1)
  clear b0 b1 b2 b3 b4 b5 b6 b7 b8 hb1 H HV HBX HBK HCK
  have b0 := HBK1.out.cell (j := 0) rfl
  have b1 := HBK1.out.cell (j := 1) rfl
  have b2 := HBK1.out.cell (j := 2) rfl
  have b3 := HBK1.out.cell (j := 3) rfl
  have b4 := HBK1.out.cell (j := 4) rfl
  have b5 := HBK1.out.cell (j := 5) rfl
  have b6 := HBK1.out.cell (j := 6) rfl
  have b7 := HBK1.out.cell (j := 7) rfl
  have b8 := HBK1.out.cell (j := 8) rfl
  have l2 := H1.out.cell (j := 2) rfl
  have hlk : w1.cell? ⟨g, K * 9, none⟩ = _ := (World.cell?_of_block (w := w) (a := ⟨g, K * 9, none⟩) (HBX1.out.block g hgl)).trans HLK.out.1
  have hlb : w1.cell? ⟨g, K * 9 + 2, none⟩ = _ := (World.cell?_of_block (w := w) (a := ⟨g, K * 9 + 2, none⟩) (HBX1.out.block g hgl)).trans HLK.out.2.1
  go_wp2_with fail
  go_region
  go_wp2_with fail
  refine (HPR.out w1.drew (HBX1.out.drew)).mono ?_
  rintro e w2 ⟨rfl, hb2⟩
  have hb2' : Below w1.heap.size w1 w2 := up2 ((Below.refl _ w1).drew) hb2
  have H2 := Lib.hid (H1.out.up hb2')
  have HV2 := Lib.hid (HV1.out.up hb2')
  have HBX2 := Lib.hid (up2 HBX1.out hb2')
  have HBK2 := Lib.hid (HBK1.out.up hb2')
  clear b0 b1 b2 b3 b4 b5 b6 b7 b8 hb2 hb2' H1 HV1 HBX1 HBK1 HPR l2 hlk hlb
  have l5 := H2.out.cell (j := 5) rfl
  go_wp2_with fail
  obtain ⟨VV, hVV⟩ : ∃ VV : Value, VV = (.slice (some ⟨g, 0, none⟩) O.length cap) := ⟨_, rfl⟩
  have hVB : ∀ k, VV.ownBlock = some k → k ≠ l ∧ k < w.heap.size := by
    intro k hk
    subst hVV
    simp [Value.ownBlock] at hk
    exact hk ▸ ⟨hgl2, hgl⟩
  obtain ⟨v', w3, happ, hown3, hb3, ho3, hblk3⟩ := append_elem eltCg (B := 0) (w := w2.drew) (hVV ▸ (HV2.out.up ((Below.refl _ w2).drew)) : ROwn encCg 119 9 0 w2.drew VV O) (Nat.zero_le _) ⟨k, a, b, id, nm, tx, vk, vn, had⟩ (by have := HLK.out; omega) (by omega)
  have HP := Lib.hid happ
  have HO3 : Hid (Only (fun k => VV.ownBlock = some k) w2 w3) := Lib.hid (((Only.refl _ w2).drew).trans ho3)
  have hon : Only (fun k => VV.ownBlock = some k) w w3 := (Only.of_below HBX2.out).trans HO3.out
  have HON := Lib.hid hon
  have hk3 : Blk w3 l 173 _ := H2.out.only HO3.out (fun hk => (hVB l hk).1 rfl)
  have HK3 := Lib.hid hk3
  have HB3 : Hid (∀ k, v'.ownBlock = some k → k ≠ l ∧ (VV.ownBlock = some k ∨ w.heap.size ≤ k)) := Lib.hid (fun k hk => by
    have hs2 : w.heap.size ≤ w2.heap.size := HBX2.out.size
    rcases hblk3 with e | ⟨g3, e, hg3⟩
    · rw [e] at hk; exact ⟨(hVB k hk).1, .inl hk⟩
    · rw [e] at hk; cases hk; exact ⟨by have : w2.drew.heap.size ≤ k := hg3; have : w2.drew.heap.size = w2.heap.size := rfl; omega, .inr (by have : w2.drew.heap.size ≤ k := hg3; have : w2.drew.heap.size = w2.heap.size := rfl; omega)⟩)
  have C2 : ∀ x : OnW (fun k => VV.ownBlock = some k) w2, x.w.cell? ⟨l, 2, none⟩ = some (.slice (some ⟨g, 0, none⟩) O.length cap) := fun x => (H2.out.only x.on (fun hk => (hVB l hk).1 rfl)).cell (j := 2) rfl
  have CB : ∀ x : OnW (fun k => VV.ownBlock = some k) w2, Blk x.w w.heap.size 119 _ := fun x => HBK2.out.only x.on (fun hk => by have := (hVB _ hk).2; omega)
  have b0 := fun x => (CB x).cell (j := 0) rfl
  have b1 := fun x => (CB x).cell (j := 1) rfl
  have b2 := fun x => (CB x).cell (j := 2) rfl
  have b3 := fun x => (CB x).cell (j := 3) rfl
  have b4 := fun x => (CB x).cell (j := 4) rfl
  have b5 := fun x => (CB x).cell (j := 5) rfl
  have b6 := fun x => (CB x).cell (j := 6) rfl
  have b7 := fun x => (CB x).cell (j := 7) rfl
  have b8 := fun x => (CB x).cell (j := 8) rfl
  clear CB happ ho3 hon hk3 hb3 hblk3
  refine wp_region_mixO (fun k => VV.ownBlock = some k) 10 (.one [0, 1, 2, 3, 4, 5] 6 (.one [] 7 (.done [8, 9]))) (by kernel_rfl) (fun c d v a w h => by cases d <;> exact h) (by kernel_rfl) ?_
  simp only [wpMixT, pk_nil, pk_cons, pushAt_zero, pushAt_succ, List.drop_succ_cons, List.drop_zero]
  repeat (go_big_quiet_step (fail))
  refine wpQuiet_nil ?_
  clear b0 b1 b2 b3 b4 b5 b6 b7 b8
  have HVV := Lib.hid hVV
  subst hVV
  clear HVV
  go_wp2_with fail
  refine thenQ_normal ⟨⟨⟨_, (Only.refl _ w2).drew.alloc _⟩, rfl⟩, ?_⟩
  refine wpQuiet_nil ?_
  refine wpList_app_run rfl _ _ _ rfl rfl rfl HP.out ?_
  go_wp2_with fail
  refine thenQ_normal ⟨⟨⟨_, HO3.out⟩, rfl⟩, ?_⟩
  repeat (go_big_quiet_step (fail))
  refine wpQuiet_nil ?_
  clear C2
  have HOW := Lib.hid hown3
  obtain ⟨A', cap', hv'q, _, _, _⟩ := hown3.shape eltCg
  have hll : (O ++ [(⟨k, a, b, id, nm, tx, vk, vn, had⟩ : Chg)]).length = (O.length + 1) := by simp
  rw [hll] at hv'q
  subst hv'q
  clear hown3 hll
  have f2 := HK3.out.fz 2
  have k2 := HK3.out.cell (j := 2) rfl
  have hsw : w.heap.size ≤ w3.heap.size := HON.out.size
  have hk4 := HK3.out.set (j := 2) (by simp) (.slice A' (O.length + 1) cap')
  have HW4 := Lib.hid (HOW.out.kept (w' := w3.setCell ⟨l, 2, none⟩ (.slice A' (O.length + 1) cap')) (fun g hg => Below.heap_setCell _ _ _ _ (HB3.out g hg).1))
  have HO4 := Lib.hid ((HON.out.mono (T := fun k => k = l ∨ (Value.slice (some ⟨g, 0, none⟩) O.length cap).ownBlock = some k) (fun k hk => .inr hk)).setCell (p := ⟨l, 2, none⟩) (.inl rfl) (.slice A' (O.length + 1) cap'))
  have HK4 := Lib.hid hk4
  clear hk4
  go_wp2_with fail
  generalize w3.setCell ⟨l, 2, none⟩ (.slice A' (O.length + 1) cap') = w4 at *
  have m4 := HK4.out.cell (j := 4) rfl
  have m5 := HK4.out.cell (j := 5) rfl
  have f4 := HK4.out.fz 4
  have f5 := HK4.out.fz 5
  go_region
  go_wp2_with fail
  go_ret
  have hk6 := (HK4.out.set (j := 4) (by simp) (.int .i64 (co + P))).set (j := 5) (by simp) (.int .i64 (nw + P))
  refine ⟨rfl, _, ?_, hk6, ((HO4.out.setCell (p := ⟨l, 4, none⟩) (.inl rfl) (.int .i64 (co + P))).setCell (p := ⟨l, 5, none⟩) (.inl rfl) (.int .i64 (nw + P))).drew, fun k hk => (HB3.out k hk).2⟩
  exact HW4.out.kept (fun g hg => by
    have h1 := (HB3.out g hg).1
    exact (Below.heap_setCell (w4.setCell ⟨l, 4, none⟩ (.int .i64 (co + P))) ⟨l, 5, none⟩ (.int .i64 (nw + P)) g h1).trans (Below.heap_setCell w4 ⟨l, 4, none⟩ (.int .i64 (co + P)) g h1))
set_option maxRecDepth 100000 in
set_option maxHeartbeats 4000000 in
theorem gadd_n2 {c : Chg} {x : Chg} {K : Nat} (hv : ROwn encCg 119 9 0 w ov O) (hx : O[K]? = some x) (hK : O.length = K + 1) (hOl : O.length ≤ 1000000) (hsep : ∀ k, ov.ownBlock = some k → k ≠ l) (hc : c.k = 1 ∧ x.k ≠ 1) (hok : ChgOk c) (hT : Tabs N w) (hR : Rules N w) (h : Blk w l 173 (logC gv (ov) ch co nw)) (h0 : 0 ≤ nw) (h1 : nw + priceC c ≤ 1048576) (h2 : 0 ≤ co) (h3 : co ≤ 100000000) :
    Calls Tryz.prog 191 #[.pointer (some ⟨l, 0, none⟩), chgV c] w fun e w' => e = .returned (.int .i64 0) ∧ AddP w l gv (ov) ch (co + priceC c) (nw + priceC c) (O ++ [c]) w' := by
  have hwf : ∀ k, ov.ownBlock = some k → k < w.heap.size := fun k hk => hv.lt hk
  obtain ⟨g, cap, rfl, hcap1, hcap2, hgB, hgl, hfz, hat⟩ := hv.lies eltCg (by omega)
  have hgl2 : g ≠ l := hsep g rfl
  have hlk : w.cell? ⟨g, K * 9, none⟩ = some (.int .i64 x.k) := hat K x 0 _ hx rfl
  have hlb : w.cell? ⟨g, K * 9 + 2, none⟩ = some (.int .i64 x.b) := hat K x 2 _ hx rfl
  clear hat
  have hbx := below1 w (.cells (chgA c) 119)
  have hbk := Blk.made w 119 (chgA c)
  have hl0 := h.lt
  have hck := fun (w' : World) (hb : Below w.heap.size w w') => gcheck hok (hT.up hb) (hR.up hb)
  have hpr := fun (w' : World) (hb : Below w.heap.size w w') => gprice hok (hT.up hb)
  obtain ⟨P, hP⟩ : ∃ P : Nat, P = priceC c := ⟨_, rfl⟩
  rw [← hP] at h1 hpr ⊢
  have s1 : IntKind.i64.wrap (nw + (P : Int)) = nw + P := IntWalk.i64_in _ (by omega)
  have s2 : IntKind.i64.wrap (co + (P : Int)) = co + P := IntWalk.i64_in _ (by omega)
  have d1 : decide ((1048576 : Int) < nw + P) = false := decide_eq_false (by omega)
  have HPR := Lib.hid hpr
  have s3 : IntKind.i64.wrap ((O.length : Int) - 1) = (K : Int) := by rw [IntWalk.i64_in _ (by omega)]; omega
  have hKl : K < O.length := by omega
  have d0 : decide ((0 : Int) ≤ (K : Int)) = true := decide_eq_true (by omega)
  have H := Lib.hid (h.up hbx)
  have HV := Lib.hid (hv.up hbx)
  have HBX := Lib.hid hbx
  have HBK := Lib.hid hbk
  have HCK := Lib.hid hck
  obtain ⟨k, a, b, id, nm, tx, vk, vn, had⟩ := c
  obtain ⟨hck1, hc⟩ := hc
  dsimp only at hck1
  subst hck1
  have e1 : ((x.k : Int) == 1) = false := by simpa using hc
  have e2 : (x.k = 1) = False := eq_false hc
  clear h hv hbk hck hok hT hR hpr h0 h1 h2 h3 hP hwf hcap1 hgB
  clear hc
  have HLK := Lib.hid (⟨hlk, hlb, hx, hK, hfz, hcap2, hOl, hgl⟩ : _ ∧ _ ∧ _ ∧ _ ∧ _ ∧ _ ∧ _ ∧ _)
  clear hlk hlb hx hK hfz hcap2 hOl hsep
  have hWl : Below w.heap.size w (w.alloc (.cells (chgA ⟨1, a, b, id, nm, tx, vk, vn, had⟩) 119)) := hbx
  clear hbx hWl
  go_enter Tryz.func191, Tryz.ntmps191
  go_wp2_with fail
  generalize w.alloc (.cells (chgA ⟨1, a, b, id, nm, tx, vk, vn, had⟩) 119) = W at *
  refine (gnoneL H.out).mono ?_
  rintro e w' ⟨rfl, rfl⟩
  have b0 := HBK.out.cell (j := 0) rfl
  have b1 := HBK.out.cell (j := 1) rfl
  have b2 := HBK.out.cell (j := 2) rfl
  have b3 := HBK.out.cell (j := 3) rfl
  have b4 := HBK.out.cell (j := 4) rfl
  have b5 := HBK.out.cell (j := 5) rfl
  have b6 := HBK.out.cell (j := 6) rfl
  have b7 := HBK.out.cell (j := 7) rfl
  have b8 := HBK.out.cell (j := 8) rfl
  go_wp2_with fail
  refine (HCK.out W HBX.out).mono ?_
  rintro e w1 ⟨rfl, hb1⟩
  have H1 := Lib.hid (H.out.up hb1)
  have HV1 := Lib.hid (HV.out.up hb1)
  have HBX1 := Lib.hid (up2 HBX.out hb1)
  have HBK1 := Lib.hid (HBK.out.up hb1)
  clear b0 b1 b2 b3 b4 b5 b6 b7 b8 hb1 H HV HBX HBK HCK
  have b0 := HBK1.out.cell (j := 0) rfl
  have b1 := HBK1.out.cell (j := 1) rfl
  have b2 := HBK1.out.cell (j := 2) rfl
  have b3 := HBK1.out.cell (j := 3) rfl
  have b4 := HBK1.out.cell (j := 4) rfl
  have b5 := HBK1.out.cell (j := 5) rfl
  have b6 := HBK1.out.cell (j := 6) rfl
  have b7 := HBK1.out.cell (j := 7) rfl
  have b8 := HBK1.out.cell (j := 8) rfl
  have l2 := H1.out.cell (j := 2) rfl
  have hlk : w1.cell? ⟨g, K * 9, none⟩ = _ := (World.cell?_of_block (w := w) (a := ⟨g, K * 9, none⟩) (HBX1.out.block g hgl)).trans HLK.out.1
  have hlb : w1.cell? ⟨g, K * 9 + 2, none⟩ = _ := (World.cell?_of_block (w := w) (a := ⟨g, K * 9 + 2, none⟩) (HBX1.out.block g hgl)).trans HLK.out.2.1
  go_wp2_with fail
  go_region
  go_wp2_with fail
  refine (HPR.out w1.drew (HBX1.out.drew)).mono ?_
  rintro e w2 ⟨rfl, hb2⟩
  have hb2' : Below w1.heap.size w1 w2 := up2 ((Below.refl _ w1).drew) hb2
  have H2 := Lib.hid (H1.out.up hb2')
  have HV2 := Lib.hid (HV1.out.up hb2')
  have HBX2 := Lib.hid (up2 HBX1.out hb2')
  have HBK2 := Lib.hid (HBK1.out.up hb2')
  clear b0 b1 b2 b3 b4 b5 b6 b7 b8 hb2 hb2' H1 HV1 HBX1 HBK1 HPR l2 hlk hlb
  have l5 := H2.out.cell (j := 5) rfl
  go_wp2_with fail
  obtain ⟨VV, hVV⟩ : ∃ VV : Value, VV = (.slice (some ⟨g, 0, none⟩) O.length cap) := ⟨_, rfl⟩
  have hVB : ∀ k, VV.ownBlock = some k → k ≠ l ∧ k < w.heap.size := by
    intro k hk
    subst hVV
    simp [Value.ownBlock] at hk
    exact hk ▸ ⟨hgl2, hgl⟩
  obtain ⟨v', w3, happ, hown3, hb3, ho3, hblk3⟩ := append_elem eltCg (B := 0) (w := w2.drew) (hVV ▸ (HV2.out.up ((Below.refl _ w2).drew)) : ROwn encCg 119 9 0 w2.drew VV O) (Nat.zero_le _) ⟨1, a, b, id, nm, tx, vk, vn, had⟩ (by have := HLK.out; omega) (by omega)
  have HP := Lib.hid happ
  have HO3 : Hid (Only (fun k => VV.ownBlock = some k) w2 w3) := Lib.hid (((Only.refl _ w2).drew).trans ho3)
  have hon : Only (fun k => VV.ownBlock = some k) w w3 := (Only.of_below HBX2.out).trans HO3.out
  have HON := Lib.hid hon
  have hk3 : Blk w3 l 173 _ := H2.out.only HO3.out (fun hk => (hVB l hk).1 rfl)
  have HK3 := Lib.hid hk3
  have HB3 : Hid (∀ k, v'.ownBlock = some k → k ≠ l ∧ (VV.ownBlock = some k ∨ w.heap.size ≤ k)) := Lib.hid (fun k hk => by
    have hs2 : w.heap.size ≤ w2.heap.size := HBX2.out.size
    rcases hblk3 with e | ⟨g3, e, hg3⟩
    · rw [e] at hk; exact ⟨(hVB k hk).1, .inl hk⟩
    · rw [e] at hk; cases hk; exact ⟨by have : w2.drew.heap.size ≤ k := hg3; have : w2.drew.heap.size = w2.heap.size := rfl; omega, .inr (by have : w2.drew.heap.size ≤ k := hg3; have : w2.drew.heap.size = w2.heap.size := rfl; omega)⟩)
  have C2 : ∀ x : OnW (fun k => VV.ownBlock = some k) w2, x.w.cell? ⟨l, 2, none⟩ = some (.slice (some ⟨g, 0, none⟩) O.length cap) := fun x => (H2.out.only x.on (fun hk => (hVB l hk).1 rfl)).cell (j := 2) rfl
  have CB : ∀ x : OnW (fun k => VV.ownBlock = some k) w2, Blk x.w w.heap.size 119 _ := fun x => HBK2.out.only x.on (fun hk => by have := (hVB _ hk).2; omega)
  have b0 := fun x => (CB x).cell (j := 0) rfl
  have b1 := fun x => (CB x).cell (j := 1) rfl
  have b2 := fun x => (CB x).cell (j := 2) rfl
  have b3 := fun x => (CB x).cell (j := 3) rfl
  have b4 := fun x => (CB x).cell (j := 4) rfl
  have b5 := fun x => (CB x).cell (j := 5) rfl
  have b6 := fun x => (CB x).cell (j := 6) rfl
  have b7 := fun x => (CB x).cell (j := 7) rfl
  have b8 := fun x => (CB x).cell (j := 8) rfl
  clear CB happ ho3 hon hk3 hb3 hblk3
  refine wp_region_mixO (fun k => VV.ownBlock = some k) 10 (.one [0, 1, 2, 3, 4, 5] 6 (.one [] 7 (.done [8, 9]))) (by kernel_rfl) (fun c d v a w h => by cases d <;> exact h) (by kernel_rfl) ?_
  simp only [wpMixT, pk_nil, pk_cons, pushAt_zero, pushAt_succ, List.drop_succ_cons, List.drop_zero]
  repeat (go_big_quiet_step (fail))
  refine wpQuiet_nil ?_
  clear b0 b1 b2 b3 b4 b5 b6 b7 b8
  have HVV := Lib.hid hVV
  subst hVV
  clear HVV
  go_wp2_with fail
  refine thenQ_normal ⟨⟨⟨_, (Only.refl _ w2).drew.alloc _⟩, rfl⟩, ?_⟩
  refine wpQuiet_nil ?_
  refine wpList_app_run rfl _ _ _ rfl rfl rfl HP.out ?_
  go_wp2_with fail
  refine thenQ_normal ⟨⟨⟨_, HO3.out⟩, rfl⟩, ?_⟩
  repeat (go_big_quiet_step (fail))
  refine wpQuiet_nil ?_
  clear C2
  have HOW := Lib.hid hown3
  obtain ⟨A', cap', hv'q, _, _, _⟩ := hown3.shape eltCg
  have hll : (O ++ [(⟨1, a, b, id, nm, tx, vk, vn, had⟩ : Chg)]).length = (O.length + 1) := by simp
  rw [hll] at hv'q
  subst hv'q
  clear hown3 hll
  have f2 := HK3.out.fz 2
  have k2 := HK3.out.cell (j := 2) rfl
  have hsw : w.heap.size ≤ w3.heap.size := HON.out.size
  have hk4 := HK3.out.set (j := 2) (by simp) (.slice A' (O.length + 1) cap')
  have HW4 := Lib.hid (HOW.out.kept (w' := w3.setCell ⟨l, 2, none⟩ (.slice A' (O.length + 1) cap')) (fun g hg => Below.heap_setCell _ _ _ _ (HB3.out g hg).1))
  have HO4 := Lib.hid ((HON.out.mono (T := fun k => k = l ∨ (Value.slice (some ⟨g, 0, none⟩) O.length cap).ownBlock = some k) (fun k hk => .inr hk)).setCell (p := ⟨l, 2, none⟩) (.inl rfl) (.slice A' (O.length + 1) cap'))
  have HK4 := Lib.hid hk4
  clear hk4
  go_wp2_with fail
  generalize w3.setCell ⟨l, 2, none⟩ (.slice A' (O.length + 1) cap') = w4 at *
  have m4 := HK4.out.cell (j := 4) rfl
  have m5 := HK4.out.cell (j := 5) rfl
  have f4 := HK4.out.fz 4
  have f5 := HK4.out.fz 5
  go_region
  go_wp2_with fail
  go_ret
  have hk6 := (HK4.out.set (j := 4) (by simp) (.int .i64 (co + P))).set (j := 5) (by simp) (.int .i64 (nw + P))
  refine ⟨rfl, _, ?_, hk6, ((HO4.out.setCell (p := ⟨l, 4, none⟩) (.inl rfl) (.int .i64 (co + P))).setCell (p := ⟨l, 5, none⟩) (.inl rfl) (.int .i64 (nw + P))).drew, fun k hk => (HB3.out k hk).2⟩
  exact HW4.out.kept (fun g hg => by
    have h1 := (HB3.out g hg).1
    exact (Below.heap_setCell (w4.setCell ⟨l, 4, none⟩ (.int .i64 (co + P))) ⟨l, 5, none⟩ (.int .i64 (nw + P)) g h1).trans (Below.heap_setCell w4 ⟨l, 4, none⟩ (.int .i64 (co + P)) g h1))
set_option maxRecDepth 100000 in
set_option maxHeartbeats 4000000 in
theorem gadd_n3 {c : Chg} {x : Chg} {K : Nat} (hv : ROwn encCg 119 9 0 w ov O) (hx : O[K]? = some x) (hK : O.length = K + 1) (hOl : O.length ≤ 1000000) (hsep : ∀ k, ov.ownBlock = some k → k ≠ l) (hc : c.k = 1 ∧ x.k = 1 ∧ x.b ≠ c.a) (hok : ChgOk c) (hT : Tabs N w) (hR : Rules N w) (h : Blk w l 173 (logC gv (ov) ch co nw)) (h0 : 0 ≤ nw) (h1 : nw + priceC c ≤ 1048576) (h2 : 0 ≤ co) (h3 : co ≤ 100000000) :
    Calls Tryz.prog 191 #[.pointer (some ⟨l, 0, none⟩), chgV c] w fun e w' => e = .returned (.int .i64 0) ∧ AddP w l gv (ov) ch (co + priceC c) (nw + priceC c) (O ++ [c]) w' := by
  have hwf : ∀ k, ov.ownBlock = some k → k < w.heap.size := fun k hk => hv.lt hk
  obtain ⟨g, cap, rfl, hcap1, hcap2, hgB, hgl, hfz, hat⟩ := hv.lies eltCg (by omega)
  have hgl2 : g ≠ l := hsep g rfl
  have hlk : w.cell? ⟨g, K * 9, none⟩ = some (.int .i64 x.k) := hat K x 0 _ hx rfl
  have hlb : w.cell? ⟨g, K * 9 + 2, none⟩ = some (.int .i64 x.b) := hat K x 2 _ hx rfl
  clear hat
  have hbx := below1 w (.cells (chgA c) 119)
  have hbk := Blk.made w 119 (chgA c)
  have hl0 := h.lt
  have hck := fun (w' : World) (hb : Below w.heap.size w w') => gcheck hok (hT.up hb) (hR.up hb)
  have hpr := fun (w' : World) (hb : Below w.heap.size w w') => gprice hok (hT.up hb)
  obtain ⟨P, hP⟩ : ∃ P : Nat, P = priceC c := ⟨_, rfl⟩
  rw [← hP] at h1 hpr ⊢
  have s1 : IntKind.i64.wrap (nw + (P : Int)) = nw + P := IntWalk.i64_in _ (by omega)
  have s2 : IntKind.i64.wrap (co + (P : Int)) = co + P := IntWalk.i64_in _ (by omega)
  have d1 : decide ((1048576 : Int) < nw + P) = false := decide_eq_false (by omega)
  have HPR := Lib.hid hpr
  have s3 : IntKind.i64.wrap ((O.length : Int) - 1) = (K : Int) := by rw [IntWalk.i64_in _ (by omega)]; omega
  have hKl : K < O.length := by omega
  have d0 : decide ((0 : Int) ≤ (K : Int)) = true := decide_eq_true (by omega)
  have H := Lib.hid (h.up hbx)
  have HV := Lib.hid (hv.up hbx)
  have HBX := Lib.hid hbx
  have HBK := Lib.hid hbk
  have HCK := Lib.hid hck
  obtain ⟨k, a, b, id, nm, tx, vk, vn, had⟩ := c
  obtain ⟨hck1, hc⟩ := hc
  dsimp only at hck1
  subst hck1
  obtain ⟨hcx, hc⟩ := hc
  dsimp only at hc
  rw [hcx] at hlk
  have e1 : ((x.b : Int) == a) = false := by simpa using hc
  have e2 : (x.b = a) = False := eq_false hc
  clear h hv hbk hck hok hT hR hpr h0 h1 h2 h3 hP hwf hcap1 hgB
  clear hc hcx
  have HLK := Lib.hid (⟨hlk, hlb, hx, hK, hfz, hcap2, hOl, hgl⟩ : _ ∧ _ ∧ _ ∧ _ ∧ _ ∧ _ ∧ _ ∧ _)
  clear hlk hlb hx hK hfz hcap2 hOl hsep
  have hWl : Below w.heap.size w (w.alloc (.cells (chgA ⟨1, a, b, id, nm, tx, vk, vn, had⟩) 119)) := hbx
  clear hbx hWl
  go_enter Tryz.func191, Tryz.ntmps191
  go_wp2_with fail
  generalize w.alloc (.cells (chgA ⟨1, a, b, id, nm, tx, vk, vn, had⟩) 119) = W at *
  refine (gnoneL H.out).mono ?_
  rintro e w' ⟨rfl, rfl⟩
  have b0 := HBK.out.cell (j := 0) rfl
  have b1 := HBK.out.cell (j := 1) rfl
  have b2 := HBK.out.cell (j := 2) rfl
  have b3 := HBK.out.cell (j := 3) rfl
  have b4 := HBK.out.cell (j := 4) rfl
  have b5 := HBK.out.cell (j := 5) rfl
  have b6 := HBK.out.cell (j := 6) rfl
  have b7 := HBK.out.cell (j := 7) rfl
  have b8 := HBK.out.cell (j := 8) rfl
  go_wp2_with fail
  refine (HCK.out W HBX.out).mono ?_
  rintro e w1 ⟨rfl, hb1⟩
  have H1 := Lib.hid (H.out.up hb1)
  have HV1 := Lib.hid (HV.out.up hb1)
  have HBX1 := Lib.hid (up2 HBX.out hb1)
  have HBK1 := Lib.hid (HBK.out.up hb1)
  clear b0 b1 b2 b3 b4 b5 b6 b7 b8 hb1 H HV HBX HBK HCK
  have b0 := HBK1.out.cell (j := 0) rfl
  have b1 := HBK1.out.cell (j := 1) rfl
  have b2 := HBK1.out.cell (j := 2) rfl
  have b3 := HBK1.out.cell (j := 3) rfl
  have b4 := HBK1.out.cell (j := 4) rfl
  have b5 := HBK1.out.cell (j := 5) rfl
  have b6 := HBK1.out.cell (j := 6) rfl
  have b7 := HBK1.out.cell (j := 7) rfl
  have b8 := HBK1.out.cell (j := 8) rfl
  have l2 := H1.out.cell (j := 2) rfl
  have hlk : w1.cell? ⟨g, K * 9, none⟩ = _ := (World.cell?_of_block (w := w) (a := ⟨g, K * 9, none⟩) (HBX1.out.block g hgl)).trans HLK.out.1
  have hlb : w1.cell? ⟨g, K * 9 + 2, none⟩ = _ := (World.cell?_of_block (w := w) (a := ⟨g, K * 9 + 2, none⟩) (HBX1.out.block g hgl)).trans HLK.out.2.1
  go_wp2_with fail
  go_region
  go_wp2_with fail
  refine (HPR.out w1.drew (HBX1.out.drew)).mono ?_
  rintro e w2 ⟨rfl, hb2⟩
  have hb2' : Below w1.heap.size w1 w2 := up2 ((Below.refl _ w1).drew) hb2
  have H2 := Lib.hid (H1.out.up hb2')
  have HV2 := Lib.hid (HV1.out.up hb2')
  have HBX2 := Lib.hid (up2 HBX1.out hb2')
  have HBK2 := Lib.hid (HBK1.out.up hb2')
  clear b0 b1 b2 b3 b4 b5 b6 b7 b8 hb2 hb2' H1 HV1 HBX1 HBK1 HPR l2 hlk hlb
  have l5 := H2.out.cell (j := 5) rfl
  go_wp2_with fail
  obtain ⟨VV, hVV⟩ : ∃ VV : Value, VV = (.slice (some ⟨g, 0, none⟩) O.length cap) := ⟨_, rfl⟩
  have hVB : ∀ k, VV.ownBlock = some k → k ≠ l ∧ k < w.heap.size := by
    intro k hk
    subst hVV
    simp [Value.ownBlock] at hk
    exact hk ▸ ⟨hgl2, hgl⟩
  obtain ⟨v', w3, happ, hown3, hb3, ho3, hblk3⟩ := append_elem eltCg (B := 0) (w := w2.drew) (hVV ▸ (HV2.out.up ((Below.refl _ w2).drew)) : ROwn encCg 119 9 0 w2.drew VV O) (Nat.zero_le _) ⟨1, a, b, id, nm, tx, vk, vn, had⟩ (by have := HLK.out; omega) (by omega)
  have HP := Lib.hid happ
  have HO3 : Hid (Only (fun k => VV.ownBlock = some k) w2 w3) := Lib.hid (((Only.refl _ w2).drew).trans ho3)
  have hon : Only (fun k => VV.ownBlock = some k) w w3 := (Only.of_below HBX2.out).trans HO3.out
  have HON := Lib.hid hon
  have hk3 : Blk w3 l 173 _ := H2.out.only HO3.out (fun hk => (hVB l hk).1 rfl)
  have HK3 := Lib.hid hk3
  have HB3 : Hid (∀ k, v'.ownBlock = some k → k ≠ l ∧ (VV.ownBlock = some k ∨ w.heap.size ≤ k)) := Lib.hid (fun k hk => by
    have hs2 : w.heap.size ≤ w2.heap.size := HBX2.out.size
    rcases hblk3 with e | ⟨g3, e, hg3⟩
    · rw [e] at hk; exact ⟨(hVB k hk).1, .inl hk⟩
    · rw [e] at hk; cases hk; exact ⟨by have : w2.drew.heap.size ≤ k := hg3; have : w2.drew.heap.size = w2.heap.size := rfl; omega, .inr (by have : w2.drew.heap.size ≤ k := hg3; have : w2.drew.heap.size = w2.heap.size := rfl; omega)⟩)
  have C2 : ∀ x : OnW (fun k => VV.ownBlock = some k) w2, x.w.cell? ⟨l, 2, none⟩ = some (.slice (some ⟨g, 0, none⟩) O.length cap) := fun x => (H2.out.only x.on (fun hk => (hVB l hk).1 rfl)).cell (j := 2) rfl
  have CB : ∀ x : OnW (fun k => VV.ownBlock = some k) w2, Blk x.w w.heap.size 119 _ := fun x => HBK2.out.only x.on (fun hk => by have := (hVB _ hk).2; omega)
  have b0 := fun x => (CB x).cell (j := 0) rfl
  have b1 := fun x => (CB x).cell (j := 1) rfl
  have b2 := fun x => (CB x).cell (j := 2) rfl
  have b3 := fun x => (CB x).cell (j := 3) rfl
  have b4 := fun x => (CB x).cell (j := 4) rfl
  have b5 := fun x => (CB x).cell (j := 5) rfl
  have b6 := fun x => (CB x).cell (j := 6) rfl
  have b7 := fun x => (CB x).cell (j := 7) rfl
  have b8 := fun x => (CB x).cell (j := 8) rfl
  clear CB happ ho3 hon hk3 hb3 hblk3
  refine wp_region_mixO (fun k => VV.ownBlock = some k) 10 (.one [0, 1, 2, 3, 4, 5] 6 (.one [] 7 (.done [8, 9]))) (by kernel_rfl) (fun c d v a w h => by cases d <;> exact h) (by kernel_rfl) ?_
  simp only [wpMixT, pk_nil, pk_cons, pushAt_zero, pushAt_succ, List.drop_succ_cons, List.drop_zero]
  repeat (go_big_quiet_step (fail))
  refine wpQuiet_nil ?_
  clear b0 b1 b2 b3 b4 b5 b6 b7 b8
  have HVV := Lib.hid hVV
  subst hVV
  clear HVV
  go_wp2_with fail
  refine thenQ_normal ⟨⟨⟨_, (Only.refl _ w2).drew.alloc _⟩, rfl⟩, ?_⟩
  refine wpQuiet_nil ?_
  refine wpList_app_run rfl _ _ _ rfl rfl rfl HP.out ?_
  go_wp2_with fail
  refine thenQ_normal ⟨⟨⟨_, HO3.out⟩, rfl⟩, ?_⟩
  repeat (go_big_quiet_step (fail))
  refine wpQuiet_nil ?_
  clear C2
  have HOW := Lib.hid hown3
  obtain ⟨A', cap', hv'q, _, _, _⟩ := hown3.shape eltCg
  have hll : (O ++ [(⟨1, a, b, id, nm, tx, vk, vn, had⟩ : Chg)]).length = (O.length + 1) := by simp
  rw [hll] at hv'q
  subst hv'q
  clear hown3 hll
  have f2 := HK3.out.fz 2
  have k2 := HK3.out.cell (j := 2) rfl
  have hsw : w.heap.size ≤ w3.heap.size := HON.out.size
  have hk4 := HK3.out.set (j := 2) (by simp) (.slice A' (O.length + 1) cap')
  have HW4 := Lib.hid (HOW.out.kept (w' := w3.setCell ⟨l, 2, none⟩ (.slice A' (O.length + 1) cap')) (fun g hg => Below.heap_setCell _ _ _ _ (HB3.out g hg).1))
  have HO4 := Lib.hid ((HON.out.mono (T := fun k => k = l ∨ (Value.slice (some ⟨g, 0, none⟩) O.length cap).ownBlock = some k) (fun k hk => .inr hk)).setCell (p := ⟨l, 2, none⟩) (.inl rfl) (.slice A' (O.length + 1) cap'))
  have HK4 := Lib.hid hk4
  clear hk4
  go_wp2_with fail
  generalize w3.setCell ⟨l, 2, none⟩ (.slice A' (O.length + 1) cap') = w4 at *
  have m4 := HK4.out.cell (j := 4) rfl
  have m5 := HK4.out.cell (j := 5) rfl
  have f4 := HK4.out.fz 4
  have f5 := HK4.out.fz 5
  go_region
  go_wp2_with fail
  go_ret
  have hk6 := (HK4.out.set (j := 4) (by simp) (.int .i64 (co + P))).set (j := 5) (by simp) (.int .i64 (nw + P))
  refine ⟨rfl, _, ?_, hk6, ((HO4.out.setCell (p := ⟨l, 4, none⟩) (.inl rfl) (.int .i64 (co + P))).setCell (p := ⟨l, 5, none⟩) (.inl rfl) (.int .i64 (nw + P))).drew, fun k hk => (HB3.out k hk).2⟩
  exact HW4.out.kept (fun g hg => by
    have h1 := (HB3.out g hg).1
    exact (Below.heap_setCell (w4.setCell ⟨l, 4, none⟩ (.int .i64 (co + P))) ⟨l, 5, none⟩ (.int .i64 (nw + P)) g h1).trans (Below.heap_setCell w4 ⟨l, 4, none⟩ (.int .i64 (co + P)) g h1))
set_option maxRecDepth 100000 in
set_option maxHeartbeats 4000000 in
theorem gadd_merge {c : Chg} {x : Chg} {K : Nat} (hv : ROwn encCg 119 9 0 w ov O) (hx : O[K]? = some x) (hK : O.length = K + 1) (hOl : O.length ≤ 1000000) (hsep : ∀ k, ov.ownBlock = some k → k ≠ l) (hc : c.k = 1 ∧ x.k = 1 ∧ x.b = c.a) (hok : ChgOk c) (hT : Tabs N w) (hR : Rules N w) (h : Blk w l 173 (logC gv (ov) ch co nw))  :
    Calls Tryz.prog 191 #[.pointer (some ⟨l, 0, none⟩), chgV c] w fun e w' => e = .returned (.int .i64 0) ∧ AddP w l gv ov ch co nw (O.set K { x with b := c.b }) w' := by
  have hwf : ∀ k, ov.ownBlock = some k → k < w.heap.size := fun k hk => hv.lt hk
  obtain ⟨g, cap, rfl, hcap1, hcap2, hgB, hgl, hfz, hat⟩ := hv.lies eltCg (by omega)
  have hgl2 : g ≠ l := hsep g rfl
  have hlk : w.cell? ⟨g, K * 9, none⟩ = some (.int .i64 x.k) := hat K x 0 _ hx rfl
  have hlb : w.cell? ⟨g, K * 9 + 2, none⟩ = some (.int .i64 x.b) := hat K x 2 _ hx rfl
  clear hat
  have hbx := below1 w (.cells (chgA c) 119)
  have hbk := Blk.made w 119 (chgA c)
  have hl0 := h.lt
  have hck := fun (w' : World) (hb : Below w.heap.size w w') => gcheck hok (hT.up hb) (hR.up hb)
  have s3 : IntKind.i64.wrap ((O.length : Int) - 1) = (K : Int) := by rw [IntWalk.i64_in _ (by omega)]; omega
  have hKl : K < O.length := by omega
  have d0 : decide ((0 : Int) ≤ (K : Int)) = true := decide_eq_true (by omega)
  have H := Lib.hid (h.up hbx)
  have HV := Lib.hid (hv.up hbx)
  have HBX := Lib.hid hbx
  have HBK := Lib.hid hbk
  have HCK := Lib.hid hck
  obtain ⟨k, a, b, id, nm, tx, vk, vn, had⟩ := c
  obtain ⟨hck1, hc⟩ := hc
  dsimp only at hck1
  subst hck1
  obtain ⟨hcx, hc⟩ := hc
  dsimp only at hc
  rw [hcx] at hlk
  rw [hc] at hlb
  clear h hv hbk hck hok hT hR hwf hcap1 hgB
  have HLK := Lib.hid (⟨hlk, hlb, hx, hK, hfz, hcap2, hOl, hgl⟩ : _ ∧ _ ∧ _ ∧ _ ∧ _ ∧ _ ∧ _ ∧ _)
  clear hlk hlb hx hK hfz hcap2 hOl hsep
  have hWl : Below w.heap.size w (w.alloc (.cells (chgA ⟨1, a, b, id, nm, tx, vk, vn, had⟩) 119)) := hbx
  clear hbx hWl
  go_enter Tryz.func191, Tryz.ntmps191
  go_wp2_with fail
  generalize w.alloc (.cells (chgA ⟨1, a, b, id, nm, tx, vk, vn, had⟩) 119) = W at *
  refine (gnoneL H.out).mono ?_
  rintro e w' ⟨rfl, rfl⟩
  have b0 := HBK.out.cell (j := 0) rfl
  have b1 := HBK.out.cell (j := 1) rfl
  have b2 := HBK.out.cell (j := 2) rfl
  have b3 := HBK.out.cell (j := 3) rfl
  have b4 := HBK.out.cell (j := 4) rfl
  have b5 := HBK.out.cell (j := 5) rfl
  have b6 := HBK.out.cell (j := 6) rfl
  have b7 := HBK.out.cell (j := 7) rfl
  have b8 := HBK.out.cell (j := 8) rfl
  go_wp2_with fail
  refine (HCK.out W HBX.out).mono ?_
  rintro e w1 ⟨rfl, hb1⟩
  have H1 := Lib.hid (H.out.up hb1)
  have HV1 := Lib.hid (HV.out.up hb1)
  have HBX1 := Lib.hid (up2 HBX.out hb1)
  have HBK1 := Lib.hid (HBK.out.up hb1)
  clear b0 b1 b2 b3 b4 b5 b6 b7 b8 hb1 H HV HBX HBK HCK
  have b0 := HBK1.out.cell (j := 0) rfl
  have b1 := HBK1.out.cell (j := 1) rfl
  have b2 := HBK1.out.cell (j := 2) rfl
  have b3 := HBK1.out.cell (j := 3) rfl
  have b4 := HBK1.out.cell (j := 4) rfl
  have b5 := HBK1.out.cell (j := 5) rfl
  have b6 := HBK1.out.cell (j := 6) rfl
  have b7 := HBK1.out.cell (j := 7) rfl
  have b8 := HBK1.out.cell (j := 8) rfl
  have l2 := H1.out.cell (j := 2) rfl
  have hlk : w1.cell? ⟨g, K * 9, none⟩ = _ := (World.cell?_of_block (w := w) (a := ⟨g, K * 9, none⟩) (HBX1.out.block g hgl)).trans HLK.out.1
  have hf1 : w1.frozen? ⟨g, K * 9 + 2, none⟩ = false := (World.frozen?_of_block (w := w) (a := ⟨g, K * 9 + 2, none⟩) (HBX1.out.block g hgl)).trans (HLK.out.2.2.2.2.1 _ (by have := HLK.out.2.2.2.1; omega))
  have hlb : w1.cell? ⟨g, K * 9 + 2, none⟩ = _ := (World.cell?_of_block (w := w) (a := ⟨g, K * 9 + 2, none⟩) (HBX1.out.block g hgl)).trans HLK.out.2.1
  go_wp2_with fail
  go_region
  go_wp2_with fail
  go_region
  go_wp2_with fail
  go_ret
  obtain ⟨_, _, hx, hK, hfz, hcap2, hOl, _⟩ := HLK.out
  have hp := ROwn.put eltCg (HV1.out.up ((Below.refl _ w1).drew)) (i := K) (j := 2) (x := x) (y := { x with b := b }) (u := .int .i64 b) hx (by omega) rfl
  refine ⟨rfl, .slice (some ⟨g, 0, none⟩) O.length cap, ?_, (H1.out.kept (Below.heap_setCell w1 ⟨g, K * 9 + 2, none⟩ (.int .i64 b) l (fun e => hgl2 e.symm)) : Blk _ _ _ _), ?_, fun k hk => .inl hk⟩
  · rw [show O.length = (O.set K { x with b := b }).length by simp]
    rw [List.length_set]
    exact (hp.kept (fun q hq => rfl))
  · exact ((Only.of_below (S := fun k => k = l ∨ (Value.slice (some ⟨g, 0, none⟩) O.length cap).ownBlock = some k) HBX1.out).setCell (p := ⟨g, K * 9 + 2, none⟩) (.inr rfl) (.int .i64 b)).drew.drew
theorem set_last (O : List Chg) (y : Chg) {K : Nat} (hK : O.length = K + 1) : O.set K y = O.dropLast ++ [y] := by
  have hne : O ≠ [] := fun e => by rw [e] at hK; simp at hK
  have h := List.dropLast_concat_getLast hne
  have hl : O.dropLast.length = K := by simp; omega
  generalize O.getLast hne = z at h
  generalize O.dropLast = L at h hl ⊢
  subst h
  rw [List.set_append_right _ _ (by omega), hl, Nat.sub_self, List.set_cons_zero]
/-- The open group with a change. -/
def mergeB (O : List Chg) (c : Chg) : Bool := match O.getLast? with
  | some x => decide (c.k = 1 ∧ x.k = 1 ∧ x.b = c.a)
  | none => false
def logAdd (O : List Chg) (c : Chg) : List Chg := if mergeB O c = true then O.dropLast ++ [{ (O.getLastD chg0) with b := c.b }] else O ++ [c]
def addCost (O : List Chg) (c : Chg) : Nat := if mergeB O c = true then 0 else priceC c
theorem gadd {c : Chg} (hov : O = [] → ov = .slice none 0 0) (hv : ROwn encCg 119 9 0 w ov O) (hOl : O.length ≤ 1000000) (hsep : ∀ k, ov.ownBlock = some k → k ≠ l) (hok : ChgOk c) (hT : Tabs N w) (hR : Rules N w) (h : Blk w l 173 (logC gv ov ch co nw)) (h0 : 0 ≤ nw) (h1 : nw + priceC c ≤ 1048576) (h2 : 0 ≤ co) (h3 : co ≤ 100000000) :
    Calls Tryz.prog 191 #[.pointer (some ⟨l, 0, none⟩), chgV c] w fun e w' => e = .returned (.int .i64 0) ∧ AddP w l gv ov ch (co + addCost O c) (nw + addCost O c) (logAdd O c) w' := by
  rcases Nat.eq_zero_or_pos O.length with hz | hz
  · obtain rfl := List.eq_nil_of_length_eq_zero hz
    obtain rfl := hov rfl
    exact gadd_nil hok hT hR h h0 h1 h2 h3
  · obtain ⟨K, hK⟩ : ∃ K, O.length = K + 1 := ⟨O.length - 1, by omega⟩
    have hlt : K < O.length := by omega
    have hx : O[K]? = some O[K] := List.getElem?_eq_getElem hlt
    have hg : O.getLast? = some O[K] := by rw [List.getLast?_eq_getElem?, show O.length - 1 = K by omega]; exact hx
    have hm : mergeB O c = decide (c.k = 1 ∧ O[K].k = 1 ∧ O[K].b = c.a) := by unfold mergeB; rw [hg]
    unfold logAdd addCost
    by_cases hc1 : c.k = 1
    · by_cases hc2 : O[K].k = 1
      · by_cases hc3 : O[K].b = c.a
        · rw [hm, decide_eq_true ⟨hc1, hc2, hc3⟩, if_pos rfl, if_pos rfl]
          have e : O.dropLast ++ [{ (O.getLastD chg0) with b := c.b }] = O.set K { O[K] with b := c.b } := by
            have h1 : O.getLastD chg0 = O[K] := by rw [List.getLastD_eq_getLast?, hg]; rfl
            rw [h1]
            exact (set_last O _ hK).symm
          rw [e]
          simpa using gadd_merge hv hx hK hOl hsep ⟨hc1, hc2, hc3⟩ hok hT hR h
        · rw [hm, decide_eq_false (fun q => hc3 q.2.2), if_neg (by simp), if_neg (by simp)]
          exact gadd_n3 hv hx hK hOl hsep ⟨hc1, hc2, hc3⟩ hok hT hR h h0 h1 h2 h3
      · rw [hm, decide_eq_false (fun q => hc2 q.2.1), if_neg (by simp), if_neg (by simp)]
        exact gadd_n2 hv hx hK hOl hsep ⟨hc1, hc2⟩ hok hT hR h h0 h1 h2 h3
    · rw [hm, decide_eq_false (fun q => hc1 q.1), if_neg (by simp), if_neg (by simp)]
      exact gadd_n1 hv hx hK hOl hsep hc1 hok hT hR h h0 h1 h2 h3
end
end Go.Proofs.YtnbccoelbfgmgaaGreatDoor
/- Package buffer: first over checks, unless. -/
namespace Go.Proofs.YtnbccoelbfgmgaaGreatDoor
open Go.RowKit
set_option linter.unusedVariables false
set_option linter.unusedSimpArgs false
/-- A check: a function value without parameters, and the error that it hands back. -/
structure Chk where
  F : FuncId
  bd : Array Value
  cp : Array Value
  e : Int
abbrev Chk.val (c : Chk) : Value := .func (.func c.F) c.bd c.cp
def firstE : List Chk → Int
  | [] => 0
  | c :: L => if c.e = 0 then firstE L else c.e
theorem firstE_drop : ∀ (L : List Chk) (i : Nat), (∀ j c, L[j]? = some c → j < i → c.e = 0) → firstE (L.drop i) = firstE L
  | L, 0, _ => rfl
  | [], i + 1, _ => by simp
  | c :: L, i + 1, h => by
    have h0 : c.e = 0 := h 0 c rfl (by omega)
    rw [List.drop_succ_cons, firstE_drop L i (fun j d hd hj => h (j + 1) d (by simpa using hd) (by omega)), firstE, if_pos h0]
abbrev encK (c : Chk) : List Value := [c.val]
theorem eltK : Elt encK 156 67 1 8 Value.nilFunc := ⟨Tryz.underlying156, by kernel_rfl, rfl, by omega, fun _ => rfl, fun x u hu => by simp at hu; rcases hu with rfl; rfl⟩
section
variable {w w' : World} {A : Option Addr} {L : List Chk}
set_option maxHeartbeats 1000000 in
theorem first_any (hL : RSl encK w A L) (cap : Nat) (hl : L.length ≤ 1000) (hF : ∀ c ∈ L, Enters c.F)
    (hc : ∀ (i : Nat) (c : Chk) (w1 : World), L[i]? = some c → (∀ (j : Nat) (d : Chk), L[j]? = some d → j < i → d.e = 0) → Below w.heap.size w w1 → Calls Tryz.prog c.F (c.bd ++ c.cp) w1 fun r w2 => r = .returned (.int .i64 c.e) ∧ Below w1.heap.size w1 w2) :
    Calls Tryz.prog 53 #[.slice A L.length cap] w fun r w' => r = .returned (.int .i64 (firstE L)) ∧ Below w.heap.size w w' := by
  have HC := Lib.hid hc
  have HL := Lib.hid hL
  have HF := Lib.hid hF
  clear hc hL hF
  go_enter Tryz.func53, Tryz.ntmps53
  go_wp2_with fail
  go_loopw [8] (fun va wr => ∃ i : Nat, i ≤ L.length ∧ va = .int .i64 i ∧ (∀ (j : Nat) (d : Chk), L[j]? = some d → j < i → d.e = 0) ∧ Below w.heap.size w wr) (fun va _ => int2 va (.int .i64 L.length))
  case atStart => exact ⟨0, Nat.zero_le _, rfl, fun j d _ h => by omega, Below.refl _ w⟩
  case round =>
    obtain ⟨i, hi, rfl, hz, hb⟩ := hrel
    have HZ := Lib.hid hz
    have HB := Lib.hid hb
    clear hz hb
    by_cases hlt : i < L.length
    · have d1 : decide ((i : Int) < L.length) = true := decide_eq_true (by omega)
      obtain ⟨c, hx⟩ : ∃ c, L[i]? = some c := ⟨_, List.getElem?_eq_getElem hlt⟩
      obtain ⟨g, o, rfl, hg, hat⟩ := (HL.out.up HB.out).at_ eltK hx
      have k0 := hat 0 _ rfl
      rw [Nat.mul_one, Nat.add_zero] at k0
      have hlt' : (i : Int) < L.length := by omega
      have s1 : IntKind.i64.wrap ((i : Int) + 1) = ((i + 1 : Nat) : Int) := by rw [IntWalk.i64_in _ (by omega)]; omega
      have hin : ∀ (args : Array Value) (w : World), (callFunc c.F args).run Tryz.prog w = .ok (.enter c.F args) w := HF.out c (List.mem_of_getElem? hx)
      have HX := Lib.hid hx
      have HCC := Lib.hid (HC.out i c wr hx HZ.out HB.out)
      clear hat hg hx
      obtain ⟨F, bd, cp, e⟩ := c
      by_cases he : e = 0
      · have HE := Lib.hid he
        have d2 : ((e : Int) != 0) = false := by simp [he]
        clear he
        go_wp2_with fail
        refine HCC.out.mono ?_
        rintro r w1 ⟨rfl, hb1⟩
        go_wp2_with fail
        go_roundw
        case rel =>
          refine ⟨i + 1, by omega, by first | rfl | go_num, fun j d hd hj => ?_, up2 HB.out hb1⟩
          by_cases hji : j = i
          · subst hji
            rw [HX.out] at hd; cases hd; exact HE.out
          · exact HZ.out j d hd (by omega)
        case measure => simp [int2]; omega
      · have HE := Lib.hid he
        have d2 : ((e : Int) != 0) = true := by simp [he]
        clear he
        go_wp2_with fail
        refine HCC.out.mono ?_
        rintro r w1 ⟨rfl, hb1⟩
        go_wp2_with fail
        go_ret
        refine ⟨?_, up2 HB.out hb1⟩
        rw [← firstE_drop L i HZ.out, List.drop_eq_getElem_cons hlt, (List.getElem_eq_iff hlt).2 HX.out, firstE, if_neg HE.out]; rfl
    · have d1 : decide ((i : Int) < L.length) = false := decide_eq_false (by omega)
      go_wp2_with fail
      go_ret
      refine ⟨?_, HB.out⟩
      rw [← firstE_drop L i HZ.out, List.drop_eq_nil_of_le (by omega)]; rfl
end
end Go.Proofs.YtnbccoelbfgmgaaGreatDoor
/- Package buffer: unless, within, reach; checks laid as closures. -/
namespace Go.Proofs.YtnbccoelbfgmgaaGreatDoor
open Go.RowKit
set_option linter.unusedVariables false
set_option linter.unusedSimpArgs false
/-- A check that has been made: from w on it hands back its error. -/
structure ChkAt (w : World) (P : Prop) (c : Chk) : Prop where
  en : Enters c.F
  run : P → ∀ w1, Below w.heap.size w w1 → Calls Tryz.prog c.F (c.bd ++ c.cp) w1 fun r w2 => r = .returned (.int .i64 c.e) ∧ Below w1.heap.size w1 w2
section
variable {w w' : World} {P : Prop} {c : Chk}
theorem ChkAt.up (h : ChkAt w P c) (hb : Below w.heap.size w w') : ChkAt w' P c := ⟨h.en, fun p w1 hb1 => h.run p w1 (up2 hb hb1)⟩
theorem al2 (w : World) (x y : Value) (T U : TypeId) : ((w.alloc (.cells #[x] T)).alloc (.cells #[y] U)).cell? ⟨w.heap.size, 0, none⟩ = some x ∧ ((w.alloc (.cells #[x] T)).alloc (.cells #[y] U)).cell? ⟨w.heap.size + 1, 0, none⟩ = some y := by
  have h0 : (w.alloc (.cells #[x] T)).heap.size = w.heap.size + 1 := by simp
  constructor
  · rw [World.cell?_of_block (w := w.alloc (.cells #[x] T)) (a := ⟨w.heap.size, 0, none⟩) ((MapKept.heap_alloc _ _).2 _ (by simp))]
    simp only [World.cell?, (MapKept.heap_alloc w (.cells #[x] T)).1]
    rfl
  · have := (MapKept.heap_alloc (w.alloc (.cells #[x] T)) (.cells #[y] U)).1
    rw [h0] at this
    simp only [World.cell?, this]
    rfl
theorem below2 (w : World) (x y : Obj) : Below w.heap.size w ((w.alloc x).alloc y) := (below1 w x).alloc (by simp) y
set_option maxHeartbeats 1000000 in
theorem unless_ok (e : Int) (F : FuncId) (bd cp : Array Value) (w : World) : Calls Tryz.prog 66 #[.int .i64 e, .func (.func F) bd cp] w fun r w' =>
    r = .returned (.func (.func 115) #[] #[.pointer (some ⟨w.heap.size + 1, 0, none⟩), .pointer (some ⟨w.heap.size, 0, none⟩)]) ∧ Below w.heap.size w w' ∧
    w'.cell? ⟨w.heap.size, 0, none⟩ = some (.int .i64 e) ∧ w'.cell? ⟨w.heap.size + 1, 0, none⟩ = some (.func (.func F) bd cp) := by
  go_enter Tryz.func66, Tryz.ntmps66
  go_wp2_with fail
  go_ret
  exact ⟨rfl, below2 w _ _, (al2 w _ _ _ _).1, (al2 w _ _ _ _).2⟩
set_option maxHeartbeats 1000000 in
theorem unless1_ok {e : Int} {F : FuncId} {bd cp : Array Value} {p : Bool} {be bf : Nat} (hF : Enters F) (he : w.cell? ⟨be, 0, none⟩ = some (.int .i64 e)) (hf : w.cell? ⟨bf, 0, none⟩ = some (.func (.func F) bd cp))
    (hc : Calls Tryz.prog F (bd ++ cp) w fun r w2 => r = .returned (.bool p) ∧ Below w.heap.size w w2) :
    Calls Tryz.prog 115 #[.pointer (some ⟨bf, 0, none⟩), .pointer (some ⟨be, 0, none⟩)] w fun r w2 => r = .returned (.int .i64 (if p then 0 else e)) ∧ Below w.heap.size w w2 := by
  have hin : ∀ (args : Array Value) (w : World), (callFunc F args).run Tryz.prog w = .ok (.enter F args) w := hF
  have HC := Lib.hid hc
  have HE := Lib.hid he
  clear hc hF he
  go_enter Tryz.func115, Tryz.ntmps115
  go_wp2_with fail
  refine HC.out.mono ?_
  rintro r w1 ⟨rfl, hb1⟩
  have he1 : w1.cell? ⟨be, 0, none⟩ = some (.int .i64 e) := (World.cell?_of_block (w := w) (a := ⟨be, 0, none⟩) (hb1.block _ (lt_of_cell HE.out))).trans HE.out
  cases p with
  | true =>
    go_wp2_with fail
    go_ret
    exact ⟨rfl, hb1⟩
  | false =>
    go_wp2_with fail
    go_ret
    exact ⟨rfl, hb1⟩
/-- The check that 'unless' makes. -/
abbrev unlC (be bf : Nat) (e : Int) : Chk := ⟨115, #[], #[.pointer (some ⟨bf, 0, none⟩), .pointer (some ⟨be, 0, none⟩)], e⟩
theorem ChkAt.unless {e : Int} {F : FuncId} {bd cp : Array Value} {p : Bool} {be bf : Nat} (hF : Enters F) (he : w.cell? ⟨be, 0, none⟩ = some (.int .i64 e)) (hf : w.cell? ⟨bf, 0, none⟩ = some (.func (.func F) bd cp))
    (hc : P → ∀ w1, Below w.heap.size w w1 → Calls Tryz.prog F (bd ++ cp) w1 fun r w2 => r = .returned (.bool p) ∧ Below w1.heap.size w1 w2) : ChkAt w P (unlC be bf (if p then 0 else e)) :=
  ⟨enters_mk Tryz.func115 (by kernel_rfl) rfl, fun hp w1 hb => by
    have := unless1_ok (w := w1) (be := be) (bf := bf) hF ((World.cell?_of_block (w := w) (a := ⟨be, 0, none⟩) (hb.block _ (lt_of_cell he))).trans he) ((World.cell?_of_block (w := w) (a := ⟨bf, 0, none⟩) (hb.block _ (lt_of_cell hf))).trans hf) (hc hp w1 hb)
    exact this⟩
/-- A buffer's cells: positions, flags, ticks, parts, the log's flags. -/
structure BS where
  pt : Nat
  lo : Nat
  hi : Nat
  mark : Nat
  marked : Bool
  ro : Bool
  fo : Bool
  tick : Nat
  clean : Nat
  t : Nat
  m : Nat
  p : Nat
  o : Nat
  l : Nat
  logs : Bool
  empty : Bool
  lock : Int
  saved : Value
  tokens : Nat
abbrev pAt (b : Nat) : Value := .pointer (some ⟨b, 0, none⟩)
abbrev bufC (S : BS) : Array Value := #[.int .i64 S.pt, .int .i64 S.lo, .int .i64 S.hi, .int .i64 S.mark, .bool S.marked, .bool S.ro, .bool S.fo, .int .i64 S.tick, .int .i64 S.clean, pAt S.t, pAt S.m, pAt S.p, pAt S.o, pAt S.l, .bool S.logs, .bool S.empty, .int .i64 S.lock, S.saved, .int .i64 S.tokens]
abbrev BufB (w : World) (b : Nat) (S : BS) : Prop := Blk w b 103 (bufC S)
variable {b : Nat} {S : BS}
set_option maxHeartbeats 1000000 in
theorem reach_ok (h : BufB w b S) (x y : Int) : Calls Tryz.prog 102 #[pAt b, .int .i64 x, .int .i64 y] w fun r w2 => r = .returned (.bool (decide ((S.lo : Int) ≤ x) && decide (x ≤ y) && decide (y ≤ (S.hi : Int)))) ∧ w = w2 := by
  obtain ⟨lo, hlo⟩ : ∃ lo : Int, (S.lo : Int) = lo := ⟨_, rfl⟩
  obtain ⟨hi, hhi⟩ : ∃ hi : Int, (S.hi : Int) = hi := ⟨_, rfl⟩
  have c1 : w.cell? ⟨b, 1, none⟩ = some (.int .i64 (S.lo : Int)) := h.cell (j := 1) rfl
  have c2 : w.cell? ⟨b, 2, none⟩ = some (.int .i64 (S.hi : Int)) := h.cell (j := 2) rfl
  rw [hlo] at c1 ⊢
  rw [hhi] at c2 ⊢
  clear h hlo hhi
  cases d1 : decide (lo ≤ x) <;> cases d2 : decide (x ≤ y) <;> cases d3 : decide (y ≤ hi)
  all_goals
    go_enter Tryz.func102, Tryz.ntmps102
    go_wp2_with fail
    go_ret
    exact ⟨rfl, rfl⟩
end
end Go.Proofs.YtnbccoelbfgmgaaGreatDoor
