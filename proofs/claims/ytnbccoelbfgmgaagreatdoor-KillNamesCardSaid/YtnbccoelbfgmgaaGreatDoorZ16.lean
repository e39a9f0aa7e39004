import Derived.Test.YtnbccoelbfgmgaaGreatDoorZ12
import Derived.Test.YtnbccoelbfgmgaaGreatDoorZ08
import Derived.Test.YtnbccoelbfgmgaaGreatDoorZ13
import Derived.Test.YtnbccoelbfgmgaaGreatDoorZ15
import Derived.Test.YtnbccoelbfgmgaaGreatDoorZ00
/- package undo: Undo at any log. -/
namespace Go.Proofs.YtnbccoelbfgmgaaGreatDoor
open Go.RowKit Go.Lib
set_option linter.unusedVariables false
set_option linter.unusedSimpArgs false
/-- How many groups lie before the one undone last, as Undo lays it. -/
def chainN (again : Bool) (ch : Int) (n : Nat) : Int := if again = false ∨ ch < 0 then (n : Int) else ch
/-- What Undo answers. -/
def UndoP (w : World) (l : Nat) (F : Nat → Prop) (G' : List (List Chg)) (co : Int) (c : Int) (r : Ending) (w' : World) : Prop :=
  Only F w w' ∧ ∃ n, w.heap.size ≤ n ∧ n ≤ w'.heap.size ∧
    ((c = 0 ∧ r = .returned (.tuple #[.slice none 0 0, .int .i64 13]) ∧ LogF1 w' l (fun k => grow F w.heap.size k ∧ k < n) G' [] 0 co 0) ∨
     ∃ (m : Nat) (g : List Chg) (v : Value), c = ((m + 1 : Nat) : Int) ∧ G'[m]? = some g ∧ r = .returned (.tuple #[v, .int .i64 0]) ∧ LogF1 w' l (fun k => grow F w.heap.size k ∧ k < n) G' [] m co 0 ∧ ROwn encCg 119 9 n w' v g.reverse)
section
variable {w w' : World} {l : Nat} {F : Nat → Prop} {G : List (List Chg)} {O : List Chg} {ch co nw : Int} {gv ov : Value} {vs : List Sl3}
theorem LogX.setCh {k : Int} (h : LogX w l gv ov vs G O ch co nw) : LogX (w.setCell ⟨l, 3, none⟩ (.int .i64 k)) l gv ov vs G O k co nw := by
  have ho : Only (fun k => k = l) w (w.setCell ⟨l, 3, none⟩ (.int .i64 k)) := (Only.refl (fun k => k = l) w).setCell (p := ⟨l, 3, none⟩) rfl _
  have hk : ∀ j, j < w.heap.size → j ≠ l → (w.setCell ⟨l, 3, none⟩ (.int .i64 k)).heap[j]? = w.heap[j]? := fun j h1 h2 => ho.block j h1 h2
  refine ⟨h.blk.set (j := 3) (by simp) (.int .i64 k), h.gr.kept (fun j e => hk j (h.gr.lt e) (h.s2 j e)), h.len, fun i x g h1 h2 => ⟨(h.rows i x g h1 h2).1.kept (fun j e => hk j ((h.rows i x g h1 h2).1.lt e) (h.s3 x (List.mem_of_getElem? h1) j e).1), (h.rows i x g h1 h2).2⟩,
    h.op.kept (fun j e => hk j (h.op.lt e) (h.s1 j e).1), h.nil, h.s1, h.s2, h.s3⟩
set_option maxRecDepth 100000 in
set_option maxHeartbeats 4000000 in
theorem lundo1 (h : LogF1 w l F G O ch co nw) (hc : co ≤ 1048576) (hv : G.length ≤ 900000) (hO : O.length ≤ 900000) (hn : O = [] → nw = 0) (hGG : ∀ g ∈ logShut G O, g.length ≤ 900002) {C : Int} (hCC : C = (logShut G O).length) :
    Calls Tryz.prog 69 #[pAt l, .bool false] w (UndoP w l F (logShut G O) co C) := by
  obtain ⟨gv, ov, vs, hx, hf⟩ := h
  have HN := Lib.hid (gnoneL hx.blk)
  have hcl := lclose_any hx hc (by rw [hx.len]; omega) hn
  have hll : (logShut G O).length ≤ 900001 := by
    unfold logShut
    split
    · omega
    · simp; omega
  generalize logShut G O = G' at *
  have HC := Lib.hid hcl
  have HF := Lib.hid hf
  have HL := Lib.hid hll
  have HGG := Lib.hid hGG
  clear hx hn hv hf hll hc hGG hO hcl
  go_enter Tryz.func69, Tryz.ntmps69
  go_wp2_with fail
  refine HN.out.mono ?_
  rintro e w0 ⟨rfl, rfl⟩
  go_wp2_with fail
  refine HC.out.mono ?_
  rintro e w1 ⟨rfl, ho1, gv', ov', vs', hx1, hf1⟩
  have HX := Lib.hid hx1
  have HO1 := Lib.hid (ho1.mono HF.out)
  have HF1 : Hid (∀ k, logFoot l gv' ov' vs' k → grow F w.heap.size k ∧ k < w1.heap.size) := Lib.hid (fun k hk => ⟨(hf1 k hk).elim (fun e => .inl (HF.out k e)) .inr, hx1.foot_lt hk⟩)
  have HlF := Lib.hid (HF.out l (.inl rfl))
  have z1 := ho1.size
  clear ho1 hx1 hf1 HC HN
  obtain ⟨A1, cap1, hgv, hn1, hn2, hr1⟩ := HX.out.gr.shape eltG
  have hvl : vs'.length = G'.length := HX.out.len
  rw [hvl] at hgv hn1
  have c1 : w1.cell? ⟨l, 1, none⟩ = some (.slice A1 G'.length cap1) := by rw [← hgv]; exact HX.out.blk.cell (j := 1) rfl
  have c3 : w1.cell? ⟨l, 3, none⟩ = some (.int .i64 ch) := HX.out.blk.cell (j := 3) rfl
  have f3 := HX.out.blk.fz 3
  have HGV := Lib.hid hgv
  clear hvl hr1 hgv
  by_cases hz : C = 0
  · have hC0 := Lib.hid hz
    have hl0 : G'.length = 0 := by omega
    rw [hl0] at c1
    go_wp2_with fail
    go_ret2
    have z2 := HO1.out.size
    refine ⟨HO1.out.setCell (p := ⟨l, 3, none⟩) HlF.out _, w1.heap.size, by omega, by simp, .inl ⟨hC0.out, rfl, ⟨_, _, _, HX.out.setCh (k := 0), HF1.out⟩⟩⟩
  · obtain ⟨m, hm⟩ : ∃ m : Nat, C = ((m + 1 : Nat) : Int) := ⟨(C - 1).toNat, by omega⟩
    have hC0 := Lib.hid hm
    have hmm : m < G'.length := by omega
    have d0 : (((G'.length : Nat) : Int) == 0) = false := by rw [beq_eq_false_iff_ne]; omega
    have n0 : (G'.length = 0) = False := eq_false (by omega)
    have n1 : (G' = []) = False := eq_false (fun e => by rw [e] at hmm; simp at hmm)
    have s1 : IntKind.i64.wrap (((G'.length : Nat) : Int) - 1) = (m : Int) := by rw [IntWalk.i64_in _ (by have := HL.out; omega)]; omega
    go_wp2_with fail
    have hW : LogX ((w1.setCell ⟨l, 3, none⟩ (.int .i64 (G'.length : Int))).setCell ⟨l, 3, none⟩ (.int .i64 (m : Int))) l gv' ov' vs' G' [] m co 0 := by
      have := (HX.out.setCh (k := ((G'.length : Nat) : Int))).setCh (k := (m : Int))
      first | exact this | exact HX.out.setCh (k := (m : Int))
    have hOW : Only F w ((w1.setCell ⟨l, 3, none⟩ (.int .i64 (G'.length : Int))).setCell ⟨l, 3, none⟩ (.int .i64 (m : Int))) := by
      first
        | exact (HO1.out.setCell (p := ⟨l, 3, none⟩) HlF.out _).setCell (p := ⟨l, 3, none⟩) HlF.out _
        | exact HO1.out.setCell (p := ⟨l, 3, none⟩) HlF.out _
    have hzW : ((w1.setCell ⟨l, 3, none⟩ (.int .i64 (G'.length : Int))).setCell ⟨l, 3, none⟩ (.int .i64 (m : Int))).heap.size = w1.heap.size := by simp
    have HW := Lib.hid hW
    have HOW := Lib.hid hOW
    clear hW hOW c1 c3 f3 HX HO1
    generalize (w1.setCell ⟨l, 3, none⟩ (.int .i64 (G'.length : Int))).setCell ⟨l, 3, none⟩ (.int .i64 (m : Int)) = W at *
    obtain ⟨x, hx⟩ : ∃ x, vs'[m]? = some x := ⟨_, List.getElem?_eq_getElem (by rw [HW.out.len]; omega)⟩
    obtain ⟨g, hg⟩ : ∃ g, G'[m]? = some g := ⟨_, List.getElem?_eq_getElem (by omega)⟩
    obtain ⟨hrow, hgp⟩ := HW.out.rows m x g hx hg
    obtain ⟨A2, cap2, hx2, hn3, hn4, hr2⟩ := hrow.shape eltCg
    obtain ⟨A3, cap3, hgv3, _, _, hr3⟩ := HW.out.gr.shape eltG
    have hA : A3 = A1 := (Value.slice.inj (HGV.out.symm.trans hgv3)).1.symm
    subst hA
    obtain ⟨ga, oa, rfl, hga, hat⟩ := hr3.at_ eltG hx
    have k0 := hat 0 _ rfl
    rw [Nat.mul_one, Nat.add_zero] at k0
    replace k0 := k0.trans (congrArg some hx2)
    have X1 : ∀ X : UpW W.heap.size W, X.w.cell? ⟨l, 1, none⟩ = some (.slice (some ⟨ga, oa, none⟩) G'.length cap1) := fun X => by
      have := (HW.out.blk.up X.up).cell (j := 1) rfl
      rw [HGV.out] at this; exact this
    have X3 : ∀ X : UpW W.heap.size W, X.w.cell? ⟨l, 3, none⟩ = some (.int .i64 (m : Int)) := fun X => (HW.out.blk.up X.up).cell (j := 3) rfl
    have XK : ∀ X : UpW W.heap.size W, X.w.cell? ⟨ga, oa + m, none⟩ = some (.slice A2 g.length cap2) := fun X => cell_up k0 X.up
    have hgl : g.length ≤ 900002 := HGG.out g (List.mem_of_getElem? hg)
    have HCL := Lib.hid (fun (V : World) (hb : Below W.heap.size W V) => cloneCg (hr2.up hb) cap2 (by omega))
    have hmi : (m : Int) < (G'.length : Int) := by omega
    have HG := Lib.hid hg
    clear hat k0 hr2 hr3 hgv3 hx hx2 hrow hn3 hn4 hg
    refine wp_region_mix W.heap.size 12 [([0, 1, 2, 3, 4, 5, 6, 7, 8, 9], 10)] [11] (by kernel_rfl) (fun c d v a w h => by cases d <;> exact h) (by kernel_rfl) ?_
    simp only [wpMix, pk_nil, pk_cons, pushAt_zero, pushAt_succ, List.drop_succ_cons, List.drop_zero]
    repeat (go_big_quiet_step (fail))
    refine wpQuiet_nil ?_
    clear X1 X3 XK
    go_wp2_with fail
    refine (HCL.out _ (Below.refl _ W).drew).mono ?_
    rintro e w4 ⟨v, rfl, hown, hb4⟩
    go_wp2_with fail
    have hb4' : Below W.heap.size W w4 := ((Below.refl _ W).drew).trans hb4
    refine thenQ_normal ⟨⟨⟨_, hb4'⟩, rfl⟩, ?_⟩
    repeat (go_big_quiet_step (fail))
    refine wpQuiet_nil ?_
    go_wp2_with fail
    refine (revCg hown (by omega)).mono ?_
    rintro e w5 ⟨rfl, hown5, ho5⟩
    go_wp2_with fail
    go_ret2
    have hvb : ∀ k, v.ownBlock = some k → W.heap.size ≤ k := fun k hk => hown.base hk
    have z2 := HOW.out.size
    have z4 := hb4'.size
    have z5 := ho5.size
    refine ⟨(HOW.out.trans (Only.of_below hb4')).then ho5 (fun k hk hlt => by have := hvb k hk; omega), W.heap.size, by omega, by omega, .inr ⟨m, g, v, hC0.out, HG.out, rfl, ⟨_, _, _, (HW.out.up hb4').only ho5 (fun k hk e => by have := (HF1.out k hk).2; have := hvb k e; omega), ?_⟩, hown5.low (by show W.heap.size ≤ W.drew.heap.size; exact Nat.le_refl _)⟩⟩
    intro k hk; have := HF1.out k hk; exact ⟨this.1, by omega⟩


set_option maxRecDepth 100000 in
set_option maxHeartbeats 4000000 in
theorem lundo2 (h : LogF1 w l F G O ch co nw) (hc : co ≤ 1048576) (hv : G.length ≤ 900000) (hO : O.length ≤ 900000) (hn : O = [] → nw = 0) (hGG : ∀ g ∈ logShut G O, g.length ≤ 900002) {C : Int} (hCC : C = (logShut G O).length) (hch : ch < 0) :
    Calls Tryz.prog 69 #[pAt l, .bool true] w (UndoP w l F (logShut G O) co C) := by
  obtain ⟨gv, ov, vs, hx, hf⟩ := h
  have HN := Lib.hid (gnoneL hx.blk)
  have hcl := lclose_any hx hc (by rw [hx.len]; omega) hn
  have hll : (logShut G O).length ≤ 900001 := by
    unfold logShut
    split
    · omega
    · simp; omega
  generalize logShut G O = G' at *
  have HC := Lib.hid hcl
  have HF := Lib.hid hf
  have HL := Lib.hid hll
  have HGG := Lib.hid hGG
  clear hx hn hv hf hll hc hGG hO hcl
  go_enter Tryz.func69, Tryz.ntmps69
  go_wp2_with fail
  refine HN.out.mono ?_
  rintro e w0 ⟨rfl, rfl⟩
  go_wp2_with fail
  refine HC.out.mono ?_
  rintro e w1 ⟨rfl, ho1, gv', ov', vs', hx1, hf1⟩
  have HX := Lib.hid hx1
  have HO1 := Lib.hid (ho1.mono HF.out)
  have HF1 : Hid (∀ k, logFoot l gv' ov' vs' k → grow F w.heap.size k ∧ k < w1.heap.size) := Lib.hid (fun k hk => ⟨(hf1 k hk).elim (fun e => .inl (HF.out k e)) .inr, hx1.foot_lt hk⟩)
  have HlF := Lib.hid (HF.out l (.inl rfl))
  have z1 := ho1.size
  clear ho1 hx1 hf1 HC HN
  obtain ⟨A1, cap1, hgv, hn1, hn2, hr1⟩ := HX.out.gr.shape eltG
  have hvl : vs'.length = G'.length := HX.out.len
  rw [hvl] at hgv hn1
  have c1 : w1.cell? ⟨l, 1, none⟩ = some (.slice A1 G'.length cap1) := by rw [← hgv]; exact HX.out.blk.cell (j := 1) rfl
  have c3 : w1.cell? ⟨l, 3, none⟩ = some (.int .i64 ch) := HX.out.blk.cell (j := 3) rfl
  have f3 := HX.out.blk.fz 3
  have HGV := Lib.hid hgv
  clear hvl hr1 hgv
  by_cases hz : C = 0
  · have hC0 := Lib.hid hz
    have hl0 : G'.length = 0 := by omega
    rw [hl0] at c1
    have dch : decide (ch < 0) = true := decide_eq_true hch
    go_wp2_with fail
    go_ret2
    have z2 := HO1.out.size
    refine ⟨HO1.out.setCell (p := ⟨l, 3, none⟩) HlF.out _, w1.heap.size, by omega, by simp, .inl ⟨hC0.out, rfl, ⟨_, _, _, HX.out.setCh (k := 0), HF1.out⟩⟩⟩
  · obtain ⟨m, hm⟩ : ∃ m : Nat, C = ((m + 1 : Nat) : Int) := ⟨(C - 1).toNat, by omega⟩
    have hC0 := Lib.hid hm
    have hmm : m < G'.length := by omega
    have d0 : (((G'.length : Nat) : Int) == 0) = false := by rw [beq_eq_false_iff_ne]; omega
    have n0 : (G'.length = 0) = False := eq_false (by omega)
    have n1 : (G' = []) = False := eq_false (fun e => by rw [e] at hmm; simp at hmm)
    have s1 : IntKind.i64.wrap (((G'.length : Nat) : Int) - 1) = (m : Int) := by rw [IntWalk.i64_in _ (by have := HL.out; omega)]; omega
    have dch : decide (ch < 0) = true := decide_eq_true hch
    go_wp2_with fail
    have hW : LogX ((w1.setCell ⟨l, 3, none⟩ (.int .i64 (G'.length : Int))).setCell ⟨l, 3, none⟩ (.int .i64 (m : Int))) l gv' ov' vs' G' [] m co 0 := by
      have := (HX.out.setCh (k := ((G'.length : Nat) : Int))).setCh (k := (m : Int))
      first | exact this | exact HX.out.setCh (k := (m : Int))
    have hOW : Only F w ((w1.setCell ⟨l, 3, none⟩ (.int .i64 (G'.length : Int))).setCell ⟨l, 3, none⟩ (.int .i64 (m : Int))) := by
      first
        | exact (HO1.out.setCell (p := ⟨l, 3, none⟩) HlF.out _).setCell (p := ⟨l, 3, none⟩) HlF.out _
        | exact HO1.out.setCell (p := ⟨l, 3, none⟩) HlF.out _
    have hzW : ((w1.setCell ⟨l, 3, none⟩ (.int .i64 (G'.length : Int))).setCell ⟨l, 3, none⟩ (.int .i64 (m : Int))).heap.size = w1.heap.size := by simp
    have HW := Lib.hid hW
    have HOW := Lib.hid hOW
    clear hW hOW c1 c3 f3 HX HO1
    generalize (w1.setCell ⟨l, 3, none⟩ (.int .i64 (G'.length : Int))).setCell ⟨l, 3, none⟩ (.int .i64 (m : Int)) = W at *
    obtain ⟨x, hx⟩ : ∃ x, vs'[m]? = some x := ⟨_, List.getElem?_eq_getElem (by rw [HW.out.len]; omega)⟩
    obtain ⟨g, hg⟩ : ∃ g, G'[m]? = some g := ⟨_, List.getElem?_eq_getElem (by omega)⟩
    obtain ⟨hrow, hgp⟩ := HW.out.rows m x g hx hg
    obtain ⟨A2, cap2, hx2, hn3, hn4, hr2⟩ := hrow.shape eltCg
    obtain ⟨A3, cap3, hgv3, _, _, hr3⟩ := HW.out.gr.shape eltG
    have hA : A3 = A1 := (Value.slice.inj (HGV.out.symm.trans hgv3)).1.symm
    subst hA
    obtain ⟨ga, oa, rfl, hga, hat⟩ := hr3.at_ eltG hx
    have k0 := hat 0 _ rfl
    rw [Nat.mul_one, Nat.add_zero] at k0
    replace k0 := k0.trans (congrArg some hx2)
    have X1 : ∀ X : UpW W.heap.size W, X.w.cell? ⟨l, 1, none⟩ = some (.slice (some ⟨ga, oa, none⟩) G'.length cap1) := fun X => by
      have := (HW.out.blk.up X.up).cell (j := 1) rfl
      rw [HGV.out] at this; exact this
    have X3 : ∀ X : UpW W.heap.size W, X.w.cell? ⟨l, 3, none⟩ = some (.int .i64 (m : Int)) := fun X => (HW.out.blk.up X.up).cell (j := 3) rfl
    have XK : ∀ X : UpW W.heap.size W, X.w.cell? ⟨ga, oa + m, none⟩ = some (.slice A2 g.length cap2) := fun X => cell_up k0 X.up
    have hgl : g.length ≤ 900002 := HGG.out g (List.mem_of_getElem? hg)
    have HCL := Lib.hid (fun (V : World) (hb : Below W.heap.size W V) => cloneCg (hr2.up hb) cap2 (by omega))
    have hmi : (m : Int) < (G'.length : Int) := by omega
    have HG := Lib.hid hg
    clear hat k0 hr2 hr3 hgv3 hx hx2 hrow hn3 hn4 hg
    refine wp_region_mix W.heap.size 12 [([0, 1, 2, 3, 4, 5, 6, 7, 8, 9], 10)] [11] (by kernel_rfl) (fun c d v a w h => by cases d <;> exact h) (by kernel_rfl) ?_
    simp only [wpMix, pk_nil, pk_cons, pushAt_zero, pushAt_succ, List.drop_succ_cons, List.drop_zero]
    repeat (go_big_quiet_step (fail))
    refine wpQuiet_nil ?_
    clear X1 X3 XK
    go_wp2_with fail
    refine (HCL.out _ (Below.refl _ W).drew).mono ?_
    rintro e w4 ⟨v, rfl, hown, hb4⟩
    go_wp2_with fail
    have hb4' : Below W.heap.size W w4 := ((Below.refl _ W).drew).trans hb4
    refine thenQ_normal ⟨⟨⟨_, hb4'⟩, rfl⟩, ?_⟩
    repeat (go_big_quiet_step (fail))
    refine wpQuiet_nil ?_
    go_wp2_with fail
    refine (revCg hown (by omega)).mono ?_
    rintro e w5 ⟨rfl, hown5, ho5⟩
    go_wp2_with fail
    go_ret2
    have hvb : ∀ k, v.ownBlock = some k → W.heap.size ≤ k := fun k hk => hown.base hk
    have z2 := HOW.out.size
    have z4 := hb4'.size
    have z5 := ho5.size
    refine ⟨(HOW.out.trans (Only.of_below hb4')).then ho5 (fun k hk hlt => by have := hvb k hk; omega), W.heap.size, by omega, by omega, .inr ⟨m, g, v, hC0.out, HG.out, rfl, ⟨_, _, _, (HW.out.up hb4').only ho5 (fun k hk e => by have := (HF1.out k hk).2; have := hvb k e; omega), ?_⟩, hown5.low (by show W.heap.size ≤ W.drew.heap.size; exact Nat.le_refl _)⟩⟩
    intro k hk; have := HF1.out k hk; exact ⟨this.1, by omega⟩


set_option maxRecDepth 100000 in
set_option maxHeartbeats 4000000 in
theorem lundo3 (h : LogF1 w l F G O ch co nw) (hc : co ≤ 1048576) (hv : G.length ≤ 900000) (hO : O.length ≤ 900000) (hn : O = [] → nw = 0) (hGG : ∀ g ∈ logShut G O, g.length ≤ 900002) {C : Int} (hCC : C = ch) (hch : 0 ≤ ch) (hch2 : ch ≤ (logShut G O).length) :
    Calls Tryz.prog 69 #[pAt l, .bool true] w (UndoP w l F (logShut G O) co C) := by
  obtain ⟨gv, ov, vs, hx, hf⟩ := h
  have HN := Lib.hid (gnoneL hx.blk)
  have hcl := lclose_any hx hc (by rw [hx.len]; omega) hn
  have hll : (logShut G O).length ≤ 900001 := by
    unfold logShut
    split
    · omega
    · simp; omega
  generalize logShut G O = G' at *
  have HC := Lib.hid hcl
  have HF := Lib.hid hf
  have HL := Lib.hid hll
  have HGG := Lib.hid hGG
  clear hx hn hv hf hll hc hGG hO hcl
  go_enter Tryz.func69, Tryz.ntmps69
  go_wp2_with fail
  refine HN.out.mono ?_
  rintro e w0 ⟨rfl, rfl⟩
  go_wp2_with fail
  refine HC.out.mono ?_
  rintro e w1 ⟨rfl, ho1, gv', ov', vs', hx1, hf1⟩
  have HX := Lib.hid hx1
  have HO1 := Lib.hid (ho1.mono HF.out)
  have HF1 : Hid (∀ k, logFoot l gv' ov' vs' k → grow F w.heap.size k ∧ k < w1.heap.size) := Lib.hid (fun k hk => ⟨(hf1 k hk).elim (fun e => .inl (HF.out k e)) .inr, hx1.foot_lt hk⟩)
  have HlF := Lib.hid (HF.out l (.inl rfl))
  have z1 := ho1.size
  clear ho1 hx1 hf1 HC HN
  obtain ⟨A1, cap1, hgv, hn1, hn2, hr1⟩ := HX.out.gr.shape eltG
  have hvl : vs'.length = G'.length := HX.out.len
  rw [hvl] at hgv hn1
  have c1 : w1.cell? ⟨l, 1, none⟩ = some (.slice A1 G'.length cap1) := by rw [← hgv]; exact HX.out.blk.cell (j := 1) rfl
  have c3 : w1.cell? ⟨l, 3, none⟩ = some (.int .i64 ch) := HX.out.blk.cell (j := 3) rfl
  have f3 := HX.out.blk.fz 3
  have HGV := Lib.hid hgv
  clear hvl hr1 hgv
  by_cases hz : C = 0
  · have hC0 := Lib.hid hz
    have dch : decide (ch < 0) = false := decide_eq_false (by omega)
    have dn : (ch < 0) = False := eq_false (by omega)
    rw [show ch = 0 by omega] at c3 dch dn HX
    go_wp2_with fail
    go_ret2
    have z2 := HO1.out.size
    refine ⟨HO1.out, w1.heap.size, by omega, by simp, .inl ⟨hC0.out, rfl, ⟨_, _, _, HX.out, HF1.out⟩⟩⟩
  · obtain ⟨m, hm⟩ : ∃ m : Nat, C = ((m + 1 : Nat) : Int) := ⟨(C - 1).toNat, by omega⟩
    have hC0 := Lib.hid hm
    have hmm : m < G'.length := by omega
    have dch : decide (ch < 0) = false := decide_eq_false (by omega)
    have dn : (ch < 0) = False := eq_false (by omega)
    have d0 : (ch == 0) = false := by simp; omega
    have n0 : (ch = 0) = False := eq_false (by omega)
    have s1 : IntKind.i64.wrap (ch - 1) = (m : Int) := by rw [IntWalk.i64_in _ (by have := HL.out; omega)]; omega
    go_wp2_with fail
    have hW : LogX (w1.setCell ⟨l, 3, none⟩ (.int .i64 (m : Int))) l gv' ov' vs' G' [] m co 0 := by
      have := (HX.out.setCh (k := ((G'.length : Nat) : Int))).setCh (k := (m : Int))
      first | exact this | exact HX.out.setCh (k := (m : Int))
    have hOW : Only F w (w1.setCell ⟨l, 3, none⟩ (.int .i64 (m : Int))) := by
      first
        | exact (HO1.out.setCell (p := ⟨l, 3, none⟩) HlF.out _).setCell (p := ⟨l, 3, none⟩) HlF.out _
        | exact HO1.out.setCell (p := ⟨l, 3, none⟩) HlF.out _
    have hzW : (w1.setCell ⟨l, 3, none⟩ (.int .i64 (m : Int))).heap.size = w1.heap.size := by simp
    have HW := Lib.hid hW
    have HOW := Lib.hid hOW
    clear hW hOW c1 c3 f3 HX HO1
    generalize w1.setCell ⟨l, 3, none⟩ (.int .i64 (m : Int)) = W at *
    obtain ⟨x, hx⟩ : ∃ x, vs'[m]? = some x := ⟨_, List.getElem?_eq_getElem (by rw [HW.out.len]; omega)⟩
    obtain ⟨g, hg⟩ : ∃ g, G'[m]? = some g := ⟨_, List.getElem?_eq_getElem (by omega)⟩
    obtain ⟨hrow, hgp⟩ := HW.out.rows m x g hx hg
    obtain ⟨A2, cap2, hx2, hn3, hn4, hr2⟩ := hrow.shape eltCg
    obtain ⟨A3, cap3, hgv3, _, _, hr3⟩ := HW.out.gr.shape eltG
    have hA : A3 = A1 := (Value.slice.inj (HGV.out.symm.trans hgv3)).1.symm
    subst hA
    obtain ⟨ga, oa, rfl, hga, hat⟩ := hr3.at_ eltG hx
    have k0 := hat 0 _ rfl
    rw [Nat.mul_one, Nat.add_zero] at k0
    replace k0 := k0.trans (congrArg some hx2)
    have X1 : ∀ X : UpW W.heap.size W, X.w.cell? ⟨l, 1, none⟩ = some (.slice (some ⟨ga, oa, none⟩) G'.length cap1) := fun X => by
      have := (HW.out.blk.up X.up).cell (j := 1) rfl
      rw [HGV.out] at this; exact this
    have X3 : ∀ X : UpW W.heap.size W, X.w.cell? ⟨l, 3, none⟩ = some (.int .i64 (m : Int)) := fun X => (HW.out.blk.up X.up).cell (j := 3) rfl
    have XK : ∀ X : UpW W.heap.size W, X.w.cell? ⟨ga, oa + m, none⟩ = some (.slice A2 g.length cap2) := fun X => cell_up k0 X.up
    have hgl : g.length ≤ 900002 := HGG.out g (List.mem_of_getElem? hg)
    have HCL := Lib.hid (fun (V : World) (hb : Below W.heap.size W V) => cloneCg (hr2.up hb) cap2 (by omega))
    have hmi : (m : Int) < (G'.length : Int) := by omega
    have HG := Lib.hid hg
    clear hat k0 hr2 hr3 hgv3 hx hx2 hrow hn3 hn4 hg
    refine wp_region_mix W.heap.size 12 [([0, 1, 2, 3, 4, 5, 6, 7, 8, 9], 10)] [11] (by kernel_rfl) (fun c d v a w h => by cases d <;> exact h) (by kernel_rfl) ?_
    simp only [wpMix, pk_nil, pk_cons, pushAt_zero, pushAt_succ, List.drop_succ_cons, List.drop_zero]
    repeat (go_big_quiet_step (fail))
    refine wpQuiet_nil ?_
    clear X1 X3 XK
    go_wp2_with fail
    refine (HCL.out _ (Below.refl _ W).drew).mono ?_
    rintro e w4 ⟨v, rfl, hown, hb4⟩
    go_wp2_with fail
    have hb4' : Below W.heap.size W w4 := ((Below.refl _ W).drew).trans hb4
    refine thenQ_normal ⟨⟨⟨_, hb4'⟩, rfl⟩, ?_⟩
    repeat (go_big_quiet_step (fail))
    refine wpQuiet_nil ?_
    go_wp2_with fail
    refine (revCg hown (by omega)).mono ?_
    rintro e w5 ⟨rfl, hown5, ho5⟩
    go_wp2_with fail
    go_ret2
    have hvb : ∀ k, v.ownBlock = some k → W.heap.size ≤ k := fun k hk => hown.base hk
    have z2 := HOW.out.size
    have z4 := hb4'.size
    have z5 := ho5.size
    refine ⟨(HOW.out.trans (Only.of_below hb4')).then ho5 (fun k hk hlt => by have := hvb k hk; omega), W.heap.size, by omega, by omega, .inr ⟨m, g, v, hC0.out, HG.out, rfl, ⟨_, _, _, (HW.out.up hb4').only ho5 (fun k hk e => by have := (HF1.out k hk).2; have := hvb k e; omega), ?_⟩, hown5.low (by show W.heap.size ≤ W.drew.heap.size; exact Nat.le_refl _)⟩⟩
    intro k hk; have := HF1.out k hk; exact ⟨this.1, by omega⟩


theorem lundo (h : LogF1 w l F G O ch co nw) (hc : co ≤ 1048576) (hv : G.length ≤ 900000) (hO : O.length ≤ 900000) (hn : O = [] → nw = 0) (hGG : ∀ g ∈ logShut G O, g.length ≤ 900002) (again : Bool) (hch : ch ≤ (logShut G O).length) :
    Calls Tryz.prog 69 #[pAt l, .bool again] w (UndoP w l F (logShut G O) co (chainN again ch (logShut G O).length)) := by
  unfold chainN
  cases again with
  | false => rw [if_pos (.inl rfl)]; exact lundo1 h hc hv hO hn hGG rfl
  | true =>
    by_cases h0 : ch < 0
    · rw [if_pos (.inr h0)]; exact lundo2 h hc hv hO hn hGG rfl h0
    · rw [if_neg (fun e => e.elim (by simp) h0)]; exact lundo3 h hc hv hO hn hGG rfl (by omega) hch
end
end Go.Proofs.YtnbccoelbfgmgaaGreatDoor
/- Package buffer: Insert, Boundary, Size, Narrow. -/
namespace Go.Proofs.YtnbccoelbfgmgaaGreatDoor
open Go.RowKit
set_option linter.unusedVariables false
set_option linter.unusedSimpArgs false
section
variable {w w' : World} {b g : Nat} {S : BS} {cs : List Nat}
set_option maxHeartbeats 1000000 in
theorem Insert_ok {N b t g l mm m p o : Nat} {lock pr ev : Int} (hT : Tabs N w) (hR : Rules N w) (h : Fr w N b t g l mm m p o lock pr ev) (s : ByteArray) (hs : s.size ≤ 10000) (hv : (charsD s.data.toList).isSome = true) :
    Calls Tryz.prog 21 #[pAt b, .string s] w fun r w' => r = .returned (.int .i64 0) ∧ Only (fun k => k = b ∨ k = l ∨ k = t ∨ k = p) w w' ∧
      BufB w' b (aftS t m p o l lock (chrs s).length (decide ((chrs s).length = 0))) ∧ (∃ g', g ≤ g' ∧ g' ≠ b ∧ g' ≠ l ∧ GapR w' t g' (chrs s)) ∧ LogF w' l := by
  have HI := Lib.hid (insert_ok hT hR h s hs hv)
  clear hT hR h hs hv
  go_enter Tryz.func21, Tryz.ntmps21
  go_wp2_with fail
  refine HI.out.mono ?_
  rintro r w' ⟨rfl, h1, h2⟩
  have H2 := Lib.hid h2
  clear h2
  go_wp2_with fail
  go_ret
  exact ⟨rfl, h1, H2.out⟩
set_option maxHeartbeats 1000000 in
theorem bBoundary_ok (h : BufB w b S) (hlg : S.logs = true) (hL : LogF w S.l) (hbl : b ≠ S.l) : Calls Tryz.prog 34 #[pAt b] w fun r w' => r = .returned (.int .i64 0) ∧ Only (fun k => k = b ∨ k = S.l) w w' ∧ BufB w' b { S with empty := true } := by
  have c14 : w.cell? ⟨b, 14, none⟩ = some (.bool true) := by rw [← hlg]; exact h.cell (j := 14) rfl
  have c13 := h.cell (j := 13) rfl
  have HN := Lib.hid (bnoneB h)
  have HL := Lib.hid (ubound_ok hL)
  have H := Lib.hid h
  clear h hL
  go_enter Tryz.func34, Tryz.ntmps34
  go_wp2_with fail
  refine HN.out.mono ?_
  rintro r w1 ⟨rfl, rfl⟩
  go_wp2_with fail
  refine HL.out.mono ?_
  rintro r w1 ⟨rfl, ho⟩
  have hk := H.out.only ho hbl
  have q15 := hk.cell (j := 15) rfl
  have f15 := hk.fz 15
  have HK := Lib.hid hk
  clear hk
  go_wp2_with fail
  go_ret
  exact ⟨rfl, (ho.mono (T := fun k => k = b ∨ k = S.l) (fun k hk => .inr hk)).setCell (p := ⟨b, 15, none⟩) (.inl rfl) _, HK.out.set (j := 15) (by simp) (.bool true)⟩
set_option maxHeartbeats 1000000 in
theorem bSize_ok (h : BufT w b g S cs) : Calls Tryz.prog 28 #[pAt b] w fun r w' => r = .returned (.int .i64 cs.length) ∧ Below w.heap.size w w' := bsize h.r
/-! ### Narrow -/
def mayB (n : Nat) (x y : Int) : Bool := decide (1 ≤ x) && decide (x ≤ y) && decide (y ≤ (n : Int) + 1)
set_option maxHeartbeats 1000000 in
theorem stand_ok (h : BufB w b S) (x : Nat) : Calls Tryz.prog 121 #[pAt b, .int .i64 x] w fun r w' => r = .returned (.tuple #[]) ∧ Only (fun k => k = b) w w' ∧ BufB w' b { S with pt := min (max x S.lo) S.hi } := by
  have c0 := h.cell (j := 0) rfl
  have c1 : w.cell? ⟨b, 1, none⟩ = some (.int .i64 (S.lo : Int)) := h.cell (j := 1) rfl
  have c2 : w.cell? ⟨b, 2, none⟩ = some (.int .i64 (S.hi : Int)) := h.cell (j := 2) rfl
  have f0 := h.fz 0
  have e1 : max (x : Int) (S.lo : Int) = ((max x S.lo : Nat) : Int) := by omega
  have e2 : min ((max x S.lo : Nat) : Int) (S.hi : Int) = ((min (max x S.lo) S.hi : Nat) : Int) := by omega
  have H := Lib.hid h
  clear h
  go_enter Tryz.func121, Tryz.ntmps121
  go_region
  go_wp2_with fail
  go_end0
  exact ⟨rfl, (Only.setCell (S := fun k => k = b) (p := ⟨b, 0, none⟩) (Only.refl _ w) rfl _).drew, H.out.set (j := 0) (by simp) (.int .i64 ((min (max x S.lo) S.hi : Nat) : Int))⟩
end
end Go.Proofs.YtnbccoelbfgmgaaGreatDoor
/- package buffer: the log of a plain buffer opened; stand, revert, Boundary, Widen, Narrow, All, Text. -/
namespace Go.Proofs.YtnbccoelbfgmgaaGreatDoor
open Go.RowKit Go.Lib
set_option linter.unusedVariables false
set_option linter.unusedSimpArgs false
section
variable {N : Nat} {w w' : World} {b mm : Nat} {F F' Fg Fl : Nat → Prop} {pr ev : Int} {T T' : Tx} {co nw co' nw' : Int} {B B' : Nat}
/-- A turn of the log alone. -/
theorem PlainX.setLog {S : BS} {cs : List Nat} {L L' : LgS} {Fl' : Nat → Prop} (h : PlainX w b Fg Fl mm pr ev S cs L) (ho : Only Fl w w') (hl : LogF1 w' S.l Fl' L'.G L'.O L'.ch L'.co L'.nw) (h1 : ∀ k, Fl' k → grow Fl w.heap.size k ∧ k < w'.heap.size) :
    PlainX w' b Fg Fl' mm pr ev S cs L' := by
  refine ⟨h.blk.only ho h.fl.1, h.gap.only ho (fun k hk _ => h.fgl k hk), hl, h.mks.only ho h.fl.2.1 h.fl.2.2.1, h.prs.only ho h.fl.2.2.2.1, h.ovs.only ho h.fl.2.2.2.2, h.sv, fun k hk e => ?_, h.fg, ?_, h.ne, fun k hk => Nat.lt_of_lt_of_le (h.bg k hk) ho.size, fun k hk => (h1 k hk).2⟩
  · exact (h1 k e).1.elim (h.fgl k hk) (fun q => by have := h.bg k hk; omega)
  · have lt : ∀ k, k < w.heap.size → ¬ Fl k → ¬ Fl' k := fun k hk hn e => (h1 k e).1.elim hn (fun q => by omega)
    exact ⟨lt _ h.blk.lt h.fl.1, lt _ h.mks.lt.1 h.fl.2.1, lt _ h.mks.lt.2 h.fl.2.2.1, lt _ h.prs.lt h.fl.2.2.2.1, lt _ h.ovs.lt h.fl.2.2.2.2⟩
/-- The log opened, and laid back. n: a bound of what is the buffer's behind it. -/
theorem PB.log (h : PB N w b F T B) : ∃ Fl co nw, LogF1 w T.S.l Fl T.G T.O T.ch co nw ∧ (∀ k, Fl k → F k) ∧ (∀ k, Fl k → N ≤ k) ∧ T.O.length ≤ B ∧ T.G.length ≤ B ∧ 0 ≤ nw ∧ nw ≤ B ∧ 0 ≤ co ∧ co ≤ B ∧ (T.O = [] → nw = 0) ∧
    ∀ (w' : World) (Fl' : Nat → Prop) (G' : List (List Chg)) (O' : List Chg) (ch' co' nw' : Int) (B' n : Nat), Only Fl w w' → w.heap.size ≤ n → n ≤ w'.heap.size → LogF1 w' T.S.l Fl' G' O' ch' co' nw' → (∀ k, Fl' k → grow Fl w.heap.size k ∧ k < n) →
      O'.length ≤ B' → G'.length ≤ B' → 0 ≤ nw' → nw' ≤ B' → 0 ≤ co' → co' ≤ B' → (O' = [] → nw' = 0) → T.S.tick ≤ B' → Only F w w' ∧ PB N w' b (fun k => grow F w.heap.size k ∧ k < n) { T with G := G', O := O', ch := ch' } B' := by
  obtain ⟨Fg, Fl, mm, pr, ev, co, nw, hx, hd⟩ := h
  refine ⟨Fl, co, nw, hx.log, fun k hk => hd.foot k (.inr (.inr (.inl hk))), hd.abv.l, hd.o, hd.g, hd.n0, hd.n1, hd.c0, hd.c1, hd.nz, ?_⟩
  intro w' Fl' G' O' ch' co' nw' B' n ho hn1 hn2 hl hf e1 e2 e3 e4 e5 e6 e7 e8
  have hx' : PlainX w' b Fg Fl' mm pr ev T.S T.cs ⟨G', O', ch', co', nw'⟩ := hx.setLog (L' := ⟨G', O', ch', co', nw'⟩) ho hl (fun k hk => ⟨(hf k hk).1, by have := (hf k hk).2; omega⟩)
  refine ⟨ho.mono (fun k hk => hd.foot k (.inr (.inr (.inl hk)))), Fg, Fl', mm, pr, ev, co', nw', hx', ⟨hd.abv.b, hd.abv.g, fun k hk => (hf k hk).1.elim (hd.abv.l k) (fun e => by have := hd.abv.b; have := hx.blk.lt; omega), hd.abv.p, hd.abv.o⟩, hd.sane, fun k hk => ?_, e1, e3, e4, e5, e6, e2, e7, e8, hd.logs⟩
  rcases hk with hk | hk | hk | hk
  · exact ⟨.inl (hd.foot k (.inl hk)), by subst hk; have := hx.blk.lt; omega⟩
  · exact ⟨.inl (hd.foot k (.inr (.inl hk))), by have := hx.bg k hk; omega⟩
  · exact ⟨(hf k hk).1.elim (fun e => .inl (hd.foot k (.inr (.inr (.inl e))))) .inr, (hf k hk).2⟩
  · have hq : plFoot b Fg Fl mm T.S k := .inr (.inr (.inr hk))
    exact ⟨.inl (hd.foot k hq), by have := hx.foot_lt hq; omega⟩
/-- Only the buffer's own block turned. -/
theorem PB.turn {S2 : BS} (h : PB N w b F T B) (ho : Only (fun k => k = b) w w') (hk : BufB w' b S2) (h2 : S2.t = T.S.t ∧ S2.m = T.S.m ∧ S2.p = T.S.p ∧ S2.o = T.S.o ∧ S2.l = T.S.l ∧ S2.saved = T.S.saved)
    (hs : Sane S2 T.cs.length) (ht : S2.tick ≤ B) (hl : S2.logs = true) : Only F w w' ∧ PB N w' b F { T with S := S2 } B := by
  obtain ⟨Fg, Fl, mm, pr, ev, co, nw, hx, hd⟩ := h
  obtain ⟨e1, e2, e3, e4, e5, e6⟩ := h2
  refine ⟨ho.mono (fun k hk => hk ▸ hd.foot b (.inl rfl)), Fg, Fl, mm, pr, ev, co, nw, ⟨hk, ?_, ?_, ?_, ?_, ?_, by rw [← hx.sv]; exact e6, hx.fgl, by rw [e2, e3, e4]; exact hx.fg, by rw [e2, e3, e4]; exact hx.fl, by rw [e2, e3, e4]; exact hx.ne, fun k hk => Nat.lt_of_lt_of_le (hx.bg k hk) ho.size, fun k hk => Nat.lt_of_lt_of_le (hx.bl k hk) ho.size⟩,
    ⟨hd.abv.b, hd.abv.g, hd.abv.l, by dsimp only; rw [e3]; exact hd.abv.p, by dsimp only; rw [e4]; exact hd.abv.o⟩, hs, fun k hk => hd.foot k ?_, hd.o, hd.n0, hd.n1, hd.c0, hd.c1, hd.g, hd.nz, ht, hl⟩
  · rw [e1]; exact hx.gap.only ho (fun k hk _ e => hx.fg.1 (e ▸ hk))
  · rw [e5]; exact hx.log.only ho (fun k hk _ e => hx.fl.1 (e ▸ hk))
  · rw [e2]; exact hx.mks.only ho (fun e => hx.ne.1 e.symm) (fun e => hx.ne.2.1 e.symm)
  · rw [e3]; exact hx.prs.only ho (fun e => hx.ne.2.2.1 e.symm)
  · rw [e4]; exact hx.ovs.only ho (fun e => hx.ne.2.2.2.1 e.symm)
  · unfold plFoot at hk ⊢; dsimp only at hk; rw [e2, e3, e4] at hk; exact hk
theorem PB.tick (h : PB N w b F T B) : T.S.tick ≤ B := by obtain ⟨_, _, _, _, _, _, _, _, hd⟩ := h; exact hd.tick
/-- Behind stand. -/
def standT (T : Tx) (a : Nat) : Tx := { T with S := { T.S with pt := min (max a T.S.lo) T.S.hi } }
theorem pstand (h : PB N w b F T B) (a : Nat) : Calls Tryz.prog 121 #[pAt b, .int .i64 a] w fun r w' => r = .returned (.tuple #[]) ∧ Only F w w' ∧ PB N w' b F (standT T a) B := by
  refine (stand_ok h.blk a).mono ?_
  rintro r w' ⟨rfl, ho, hk⟩
  have hs := h.sane
  have g2 := hs.lp; have g3 := hs.ph
  exact ⟨rfl, h.turn ho hk ⟨rfl, rfl, rfl, rfl, rfl, rfl⟩ ⟨hs.l1, by dsimp only; omega, by dsimp only; omega, hs.hn, hs.ma⟩ h.tick h.logs⟩
/-- A change that can be undone at a state. -/
def RevOk (T : Tx) (c : Chg) : Prop :=
  (c.k = 1 ∧ 1 ≤ c.a ∧ c.a ≤ c.b ∧ c.b ≤ T.cs.length + 1) ∨ (c.k = 2 ∧ 1 ≤ c.a ∧ c.a ≤ T.cs.length + 1 ∧ (charsD c.tx.data.toList).isSome = true ∧ c.tx.size ≤ 262144 ∧ T.cs.length + (chrs c.tx).length ≤ 65536) ∨ (c.k = 4 ∧ 0 ≤ c.a) ∨ c.k = 6
/-- Behind revert. -/
def revT (T : Tx) (c : Chg) : Tx :=
  if c.k = 1 then standT (takeT T c.a.toNat c.b.toNat) c.a.toNat else if c.k = 2 then standT (putT T c.a.toNat (chrs c.tx) false) c.a.toNat else if c.k = 4 then standT T c.a.toNat else { T with S := { T.S with clean := T.S.tick } }
def revC (c : Chg) : Nat := if c.k = 1 then (c.b.toNat - c.a.toNat) + 4 else 4
end
section
variable {N : Nat} {w w' : World} {b mm : Nat} {F F' Fg Fl : Nat → Prop} {pr ev : Int} {T T' : Tx} {co nw co' nw' : Int} {B B' : Nat}
theorem PB.growF {n m : Nat} (h : PB N w b (grow F n) T B) (hm : m ≤ n) : PB N w b (grow F m) T B := h.mono (grow_mono (fun k h => h) hm) (Nat.le_refl _)
set_option maxRecDepth 100000 in
set_option maxHeartbeats 2000000 in
theorem prevert {c : Chg} (hT : Tabs N w) (hR : Rules N w) (h : PB N w b F T B) (hF : edF N F) (hB : B + revC c ≤ 900000) (hok : RevOk T c) :
    Calls Tryz.prog 70 #[pAt b, chgV c] w fun r w' => r = .returned (.tuple #[]) ∧ Only F w w' ∧ PB N w' b (grow F w.heap.size) (revT T c) (B + revC c) := by
  obtain ⟨k, a, e, id, nm, tx, vk, vn, had⟩ := c
  have hb := below1 w (.cells (chgA ⟨k, a, e, id, nm, tx, vk, vn, had⟩) 119)
  have hk := Blk.made w 119 (chgA ⟨k, a, e, id, nm, tx, vk, vn, had⟩)
  have hz : (w.alloc (.cells (chgA ⟨k, a, e, id, nm, tx, vk, vn, had⟩) 119)).heap.size = w.heap.size + 1 := by simp
  have hlt := h.bound
  unfold RevOk revC at *
  unfold revT
  dsimp only at hok hB ⊢
  rcases hok with ⟨rfl, h1, h2, h3⟩ | ⟨rfl, h1, h2, h3, h4, h5⟩ | ⟨rfl, h1⟩ | rfl
  · obtain ⟨x, rfl⟩ : ∃ x : Nat, a = x := ⟨a.toNat, by omega⟩
    obtain ⟨y, rfl⟩ : ∃ y : Nat, e = y := ⟨e.toNat, by omega⟩
    simp only [if_true, Int.toNat_natCast] at hB ⊢
    have HX := Lib.hid (ptake (hT.up hb) (hR.up hb) (hlt.up hb) (by omega) x y (by omega) (by omega) (by omega))
    have H := Lib.hid h
    have HK := Lib.hid hk
    have HB := Lib.hid hb
    have HZ := Lib.hid hz
    have k0 := hk.cell (j := 0) rfl
    have k1 : _ = some (Value.int .i64 (x : Int)) := hk.cell (j := 1) rfl
    have k2 : _ = some (Value.int .i64 (y : Int)) := hk.cell (j := 2) rfl
    clear hT hR h hb hz hlt hk hB hF
    obtain ⟨T2, hT2⟩ : ∃ T2, T2 = standT (takeT T x y) x := ⟨_, rfl⟩
    rw [← hT2]
    have HE := Lib.hid hT2
    clear hT2 h1 h2 h3
    go_enter Tryz.func70, Tryz.ntmps70
    go_wp2_with fail
    generalize w.alloc (.cells (chgA ⟨1, (x : Int), (y : Int), id, nm, tx, vk, vn, had⟩) 119) = W at *
    refine HX.out.mono ?_
    rintro r w2 ⟨rfl, ho2, hp2⟩
    have hk2 := HK.out.only ho2 (fun e => by have := e.2; omega)
    have O2 := Lib.hid ho2
    have P2 := Lib.hid hp2
    have q1 : _ = some (Value.int .i64 (x : Int)) := hk2.cell (j := 1) rfl
    clear ho2 hp2 hk2 k0 k1 k2 HX
    go_wp2_with fail
    refine (pstand P2.out x).mono ?_
    rintro r w3 ⟨rfl, ho3, hp3⟩
    have O3 := Lib.hid ho3
    have P3 := Lib.hid hp3
    clear ho3 hp3
    go_wp2_with fail
    go_end0
    have hz2 := O2.out.size
    have HE' := HE.out
    have hZ' := HZ.out
    refine ⟨rfl, ?_, ?_⟩
    · exact ((Only.of_below HB.out).trans (O2.out.mono (fun k hk => hk.1))).then O3.out (fun k hk hlt => hk.elim (fun e => e.1) (fun e => by omega))
    · rw [HE']
      exact (P3.out.mono (fun k hk => hk.elim (fun e => .inl e.1) (fun e => .inr (by omega))) (Nat.le_refl _))
  · obtain ⟨x, rfl⟩ : ∃ x : Nat, a = x := ⟨a.toNat, by omega⟩
    simp only [Int.reduceEq, if_true, if_false, Int.toNat_natCast] at hB ⊢
    have HX := Lib.hid (pput (hT.up hb) (hR.up hb) (hlt.up hb) (by omega) x (by omega) (by omega) tx h4 h3 h5 false)
    have H := Lib.hid h
    have HK := Lib.hid hk
    have HB := Lib.hid hb
    have HZ := Lib.hid hz
    have k0 := hk.cell (j := 0) rfl
    have k1 : _ = some (Value.int .i64 (x : Int)) := hk.cell (j := 1) rfl
    have k5 : _ = some (Value.string tx) := hk.cell (j := 5) rfl
    clear hT hR h hb hz hlt hk hB hF
    obtain ⟨T2, hT2⟩ : ∃ T2, T2 = standT (putT T x (chrs tx) false) x := ⟨_, rfl⟩
    rw [← hT2]
    have HE := Lib.hid hT2
    clear hT2 h1 h2 h3 h4 h5
    go_enter Tryz.func70, Tryz.ntmps70
    go_wp2_with fail
    generalize w.alloc (.cells (chgA ⟨2, (x : Int), e, id, nm, tx, vk, vn, had⟩) 119) = W at *
    refine HX.out.mono ?_
    rintro r w2 ⟨rfl, ho2, hp2⟩
    have hk2 := HK.out.only ho2 (fun e => by have := e.2; omega)
    have O2 := Lib.hid ho2
    have P2 := Lib.hid hp2
    have q1 : _ = some (Value.int .i64 (x : Int)) := hk2.cell (j := 1) rfl
    clear ho2 hp2 hk2 k0 k1 k5 HX
    go_wp2_with fail
    refine (pstand P2.out x).mono ?_
    rintro r w3 ⟨rfl, ho3, hp3⟩
    have O3 := Lib.hid ho3
    have P3 := Lib.hid hp3
    clear ho3 hp3
    go_wp2_with fail
    go_end0
    have hz2 := O2.out.size
    have HE' := HE.out
    have hZ' := HZ.out
    refine ⟨rfl, ?_, ?_⟩
    · exact ((Only.of_below HB.out).trans (O2.out.mono (fun k hk => hk.1))).then O3.out (fun k hk hlt => hk.elim (fun e => e.1) (fun e => by omega))
    · rw [HE']
      exact (P3.out.mono (fun k hk => hk.elim (fun e => .inl e.1) (fun e => .inr (by omega))) (Nat.le_refl _))
  · obtain ⟨x, rfl⟩ : ∃ x : Nat, a = x := ⟨a.toNat, by omega⟩
    simp only [Int.reduceEq, if_true, if_false, Int.toNat_natCast] at hB ⊢
    have HX := Lib.hid (pstand (h.up hb) x)
    have H := Lib.hid h
    have HK := Lib.hid hk
    have HB := Lib.hid hb
    have HZ := Lib.hid hz
    have k0 := hk.cell (j := 0) rfl
    have k1 : _ = some (Value.int .i64 (x : Int)) := hk.cell (j := 1) rfl
    clear hT hR h hb hz hlt hk hB hF
    obtain ⟨T2, hT2⟩ : ∃ T2, T2 = standT T x := ⟨_, rfl⟩
    rw [← hT2] at HX ⊢
    clear hT2 h1
    go_enter Tryz.func70, Tryz.ntmps70
    go_wp2_with fail
    generalize w.alloc (.cells (chgA ⟨4, (x : Int), e, id, nm, tx, vk, vn, had⟩) 119) = W at *
    refine HX.out.mono ?_
    rintro r w2 ⟨rfl, ho2, hp2⟩
    have O2 := Lib.hid ho2
    have P2 := Lib.hid hp2
    clear ho2 hp2 HX
    go_wp2_with fail
    go_end0
    exact ⟨rfl, (Only.of_below HB.out).trans O2.out, P2.out.mono (fun k hk => .inl hk) (by omega)⟩
  · simp only [Int.reduceEq, if_true, if_false] at hB ⊢
    have hsn := h.sane
    have HX := Lib.hid (PB.cell (j := 8) (v := .int .i64 (T.S.tick : Int)) (S2 := { T.S with clean := T.S.tick }) (h.up hb) (by omega) rfl ⟨rfl, rfl, rfl, rfl, rfl, rfl⟩ ⟨hsn.l1, hsn.lp, hsn.ph, hsn.hn, hsn.ma⟩ h.tick h.logs)
    have q7 : _ = some (Value.int .i64 (T.S.tick : Int)) := (h.up hb).blk.cell (j := 7) rfl
    have q8 := (h.up hb).blk.cell (j := 8) rfl
    have f8 := (h.up hb).blk.fz 8
    have H := Lib.hid h
    have HK := Lib.hid hk
    have HB := Lib.hid hb
    have HZ := Lib.hid hz
    have k0 := hk.cell (j := 0) rfl
    clear hT hR h hb hz hlt hk hB hF
    clear hsn
    go_enter Tryz.func70, Tryz.ntmps70
    go_wp2_with fail
    generalize w.alloc (.cells (chgA ⟨6, a, e, id, nm, tx, vk, vn, had⟩) 119) = W at *
    go_end0
    have := PB.then (T1 := T) (B1 := B) HB.out HX.out
    exact ⟨rfl, this.1, this.2.mono (fun k hk => hk) (by omega)⟩
end
end Go.Proofs.YtnbccoelbfgmgaaGreatDoor
/- Regions that draw their order, as in the text Mix; making a function value is among the pure operations. -/
namespace Go.Proofs.YtnbccoelbfgmgaaGreatDoor
open Go.RowKit
set_option linter.unusedVariables false
/-- An operation that yields a value and leaves the world. -/
def pureOpF (o : Oper) : Bool := match o.op with
  | .move _ | .assign _ | .pick _ _ _ | .build _ _ | .load _ _ | .nilCheck _ | .binOp _ _ _ _ _ | .unOp _ _ _ | .convert _ _ _ | .slice _ _ _ _ _ | .fieldAddr _ _ _ | .field _ _ _ | .indexAddr _ _ _ | .index _ _ _ | .lookup _ _ _ _ | .extract _ _ | .makeFunc (.func _) _ _ => true
  | .call c => match c.callee with
    | .builtin .len => true
    | .builtin .cap => true
    | _ => false
  | _ => false

theorem pure_valF {P : Program} {w w' : World} {ρ : Operand → Value} {o : Oper} {nx : Next} (hp : pureOpF o = true) (h : (execOp ρ o).run P w = .ok nx w') : ∃ u, nx = .value u := by
  suffices H : ValOnly (execOp ρ o) from H _ _ _ _ h
  clear h
  unfold pureOpF at hp
  unfold execOp
  cases ho : o.op <;> simp only [] <;> first
    | exact ValOnly.bind _ _ fun _ => ValOnly.pure _
    | exact ValOnly.pure _
    | (exfalso; rw [ho] at hp; simp at hp; done)
    | skip
  case nilCheck x =>
    split <;> first
      | exact val_panic
      | exact ValOnly.pure _
      | skip
    split <;> first
      | exact val_panic
      | exact ValOnly.pure _
      | skip
    refine ValOnly.bind _ _ fun _ => ValOnly.bind _ _ fun _ => ?_
    split
    · exact ValOnly.bind _ _ fun _ => ValOnly.pure _
    · exact ValOnly.pure _
  case call c =>
    rw [ho] at hp
    simp only at hp
    cases hc : c.callee <;> rw [hc] at hp <;> (try (simp at hp; done))
    rename_i b
    intro P w nx w' h
    cases b <;> (try (simp at hp; done)) <;> simp only [resolve, hc, Sem.run_bind, Sem.run_pure, Result.andThen_ok, invoke, builtin] at h <;> exact ValOnly.bind _ _ (fun _ => ValOnly.pure _) P w nx w' (by simpa only [Sem.run_bind, Sem.run_pure] using h)

section
variable {P : Program} {ops : Array Oper} {md : Region.Mode} {S : World → Prop} {Q : Exit → Act → World → Prop}

theorem yieldsIf_of_inF {o : Oper} {v : Value} {a : Act} (hp : pureOpF o = true) (h : YieldsIn P ops S o v a) : YieldsIf P ops S o v a := by
  rcases h with ⟨hw, h⟩ | h
  · refine .inl ⟨hw, fun w hS => ?_⟩
    have h1 := h w hS
    unfold Oper.quietAt at h1
    cases hr : (execOp a.eval o).run P w with
    | halt x w' => rw [hr] at h1; simp [Oper.quietUpon] at h1
    | ok nx w' =>
      rw [hr] at h1
      obtain ⟨u, rfl⟩ := pure_valF hp hr
      simp only [Oper.quietUpon] at h1
      obtain ⟨rfl, rfl⟩ := h1
      rfl
  · exact .inr h

def segBF (md : Region.Mode) (l : List Oper) (n : Nat) : List Nat → Array Bool → Option (Array Bool)
  | [], listed => some listed
  | i :: r, listed => if ((l[i]?).map pureOpF).getD false && decide (i < n) && (Region.ready md l.toArray listed).contains i && Region.free md l.toArray listed i then segBF md l n r (listed.setIfInBounds i true) else none
def mixBF (md : Region.Mode) (l : List Oper) (n : Nat) (last : List Nat) : List (List Nat × Nat) → Array Bool → Bool
  | [], listed => match segBF md l n last listed with
    | none => false
    | some l' => Region.seqB md l.toArray (l.length - n) n l'
  | (seg, i) :: r, listed => match segBF md l n seg listed with
    | none => false
    | some l' => decide (Region.ready md l.toArray l' = [i]) && decide (i < n) && mixBF md l n last r (l'.setIfInBounds i true)
def mixAllF (l : List Oper) (n : Nat) (plan : List (List Nat × Nat)) (last : List Nat) : Bool :=
  Region.noSelect l.toArray && (decide (n = l.length) || (decide (n < l.length) && Region.sinkB .any l.toArray n && Region.chainB .any l.toArray n)) && decide (cntM plan + last.length = n) && mixBF .any l n last plan (Array.replicate l.length false)

theorem seg_headMF {l : List Oper} {n : Nat} {L : Array Bool → Act → World → Prop} (hsel : Region.noSelect l.toArray = true) (hQ : ∀ c d v a w, Q (.panic c) (Act.put a d v) w → Q (.panic c) a w)
    (htw : ∀ listed, HeadInv md l.toArray n listed → ∀ i, i < n → listed.getD i true = false → ∀ t, n ≤ t → t ∉ Region.ready md l.toArray listed) (hdone : ∀ listed a w, L listed a w → ∀ j ∈ Region.ready md l.toArray listed, n ≤ j) :
    ∀ (seg : List Nat) (listed l' : Array Bool) (f : Nat) (K : Act → Prop) (a : Act) (w : World), HeadInv md l.toArray n listed → segBF md l n seg listed = some l' → S w → wpQuiet P l.toArray S K (pk l seg) a →
      (HeadInv md l.toArray n l' → ∀ a', K a' → headM P md l.toArray S Q n L f l' a' w) → headM P md l.toArray S Q n L (seg.length + f) listed a w
  | [], listed, l', f, K, a, w, inv, hB, hS, h, hK => by
    simp only [segBF, Option.some.injEq] at hB
    subst hB
    rw [List.length_nil, Nat.zero_add]
    exact hK inv a h
  | i :: seg, listed, l', f, K, a, w, inv, hB, hS, h, hK => by
    unfold segBF at hB
    split at hB
    · rename_i hc
      simp only [Bool.and_eq_true, decide_eq_true_eq] at hc
      obtain ⟨⟨⟨hp, hin⟩, hr⟩, hf⟩ := hc
      cases ho : l[i]? with
      | none => rw [ho] at hp; simp at hp
      | some o =>
        rw [ho] at hp
        have hp' : pureOpF o = true := by simpa using hp
        have ho' : l.toArray[i]? = some o := by simpa using ho
        have hr' : i ∈ Region.ready md l.toArray listed := by simpa using hr
        have hst : qOp P l.toArray S i (wpQuiet P l.toArray S K (pk l seg)) a := by
          unfold qOp
          simp only [ho']
          have e : pk l (i :: seg) = o :: pk l seg := by rw [pk_cons, pushAt_eq _ _ _ ho]
          rw [e] at h
          exact h
        obtain ⟨v, hy, hk⟩ := yieldsIn_of_qOp ho' hst
        rw [List.length_cons, show seg.length + 1 + f = (seg.length + f) + 1 by omega]
        exact headM_first ho' (Region.noSelect_spec hsel) (fun c a w h => hQ c _ _ a w h) htw hin hdone _ listed a w inv (Region.free_spec ho' hf) hr' (yieldsIf_of_inF hp' hy) hS
          (seg_headMF hsel hQ htw hdone seg _ l' f K _ w (inv.set hr' hin) hB hS hk hK)
    · cases hB

theorem mix_headMF {l : List Oper} {n : Nat} {last : List Nat} (hsel : Region.noSelect l.toArray = true) (hQ : ∀ c d v a w, Q (.panic c) (Act.put a d v) w → Q (.panic c) a w)
    (htw : ∀ listed, HeadInv md l.toArray n listed → ∀ i, i < n → listed.getD i true = false → ∀ t, n ≤ t → t ∉ Region.ready md l.toArray listed) :
    ∀ (plan : List (List Nat × Nat)) (listed : Array Bool) (a : Act) (w : World), HeadInv md l.toArray n listed → mixBF md l n last plan listed = true → S w →
      wpMix P l S Q (fun a w => wpQuiet P l.toArray S (fun a' => wpList P l.toArray Q (l.drop n) a' w) (pk l last) a) plan a w →
      headM P md l.toArray S Q n (fun listed a w => Region.seqB md l.toArray (l.length - n) n listed = true ∧ wpList P l.toArray Q (l.drop n) a w) (cntM plan + last.length) listed a w
  | [], listed, a, w, inv, hB, hS, h => by
    unfold mixBF at hB
    split at hB
    · cases hB
    · rename_i l' hl'
      have := seg_headMF (P := P) (S := S) (Q := Q) (L := fun listed a w => Region.seqB md l.toArray (l.length - n) n listed = true ∧ wpList P l.toArray Q (l.drop n) a w) hsel hQ htw (fun listed a w h => seqB_ready h.1) last listed l' 0 _ a w inv hl' hS h (fun _ a' h' => ⟨hB, h'⟩)
      simpa [cntM] using this
  | (seg, i) :: r, listed, a, w, inv, hB, hS, h => by
    unfold mixBF at hB
    split at hB
    · cases hB
    · rename_i l' hl'
      simp only [Bool.and_eq_true, decide_eq_true_eq] at hB
      obtain ⟨⟨hr, hin⟩, hB⟩ := hB
      have := seg_headMF (P := P) (S := S) (Q := Q) (L := fun listed a w => Region.seqB md l.toArray (l.length - n) n listed = true ∧ wpList P l.toArray Q (l.drop n) a w) hsel hQ htw (fun listed a w h => seqB_ready h.1) seg listed l' (1 + (cntM r + last.length)) _ a w inv hl' hS h (fun inv' a' h' => by
        rw [Nat.add_comm 1]
        refine ⟨by rw [hr]; simp, fun j hj => ?_⟩
        have hj0 := hj
        rw [hr] at hj
        have hji : j = i := by simpa using hj
        subst hji
        refine ⟨hin, ?_⟩
        obtain ⟨_, oj, hoj, _⟩ := mem_ready.1 hj0
        have e : pk l [j] = [oj] := by
          have : l[j]? = some oj := by simpa using hoj
          rw [pk_cons, pushAt_eq _ _ _ this]; rfl
        rw [e] at h'
        exact wpOp_mono (fun a'' w'' h3 => ⟨h3.1, mix_headMF hsel hQ htw r _ a'' w'' (inv'.set hj0 hin) hB h3.1 h3.2⟩) (wpOp_of_list hoj h'))
      simp only [cntM]
      rwa [show seg.length + 1 + cntM r + last.length = seg.length + (1 + (cntM r + last.length)) by omega]
end

/-- What is walked: the plan's pure operations and others, the last pure ones, the tail. S: what lay below N lies as it lay. -/
theorem wp_region_mixF {P : Program} {id : Nat} {Q : Exit → Act → World → Prop} {a : Act} {w : World} {l : List Oper} (N n : Nat) (plan : List (List Nat × Nat)) (last : List Nat) (hm : P.follows .mixedOrders = true) (hQ : ∀ c d v a w, Q (.panic c) (Act.put a d v) w → Q (.panic c) a w)
    (hB : mixAllF l n plan last = true)
    (h : wpMix P l (fun w' => ∃ x : UpW N w, w' = x.w) Q (fun a w1 => wpQuiet P l.toArray (fun w' => ∃ x : UpW N w, w' = x.w) (fun a' => wpList P l.toArray Q (l.drop n) a' w1) (pk l last) a) plan a w.drew) : (Code.region id l.toArray true).wp P Q a w := by
  simp only [mixAllF, Bool.and_eq_true, Bool.or_eq_true, decide_eq_true_eq] at hB
  obtain ⟨⟨⟨hsel, hn⟩, hcnt⟩, hmix⟩ := hB
  have hnl : n ≤ l.length := by rcases hn with h | h <;> omega
  have inv0 : HeadInv .any l.toArray n (Array.replicate l.length false) :=
    ⟨by simp, fun j oj _ hl => (by rw [getD_replicate_false] at hl; cases hl), fun t _ ht => getD_in (by simpa using ht) (getD_replicate_false _ _)⟩
  have htw : ∀ listed, HeadInv .any l.toArray n listed → ∀ i, i < n → listed.getD i true = false → ∀ t, n ≤ t → t ∉ Region.ready .any l.toArray listed := fun listed inv i hi hun t ht hr => by
    rcases hn with hn | ⟨⟨hn, hs⟩, hc⟩
    · obtain ⟨_, ot, hot, _⟩ := mem_ready.1 hr
      have := (Array.getElem?_eq_some_iff.1 hot).1
      simp at this
      omega
    · exact tail_waits hs hc (by simpa using hn) inv _ i rfl hi hun t ht hr
  have H := mix_headMF (md := .any) hsel hQ htw plan _ a w.drew inv0 hmix ⟨⟨w.drew, (Below.refl N w).drew⟩, rfl⟩ h
  refine wp_region_any hm ?_
  have key := any_of_headM (Q := Q) (g := l.length - n) (fun listed a' w' hL => by
    have := wpAny_of_seq (md := .any) (Q' := Q) (l.drop n) n listed a' w' (fun j => by simp [List.getElem?_drop]) (by rw [List.length_drop]; exact hL.1) hL.2
    rwa [List.length_drop] at this) _ _ _ _ H
  rw [hcnt, show n + (l.length - n) = l.toArray.size by simp; omega] at key
  simpa using key
end Go.Proofs.YtnbccoelbfgmgaaGreatDoor
