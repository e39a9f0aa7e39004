import Derived.Test.YtnbccoelbfgmgaaGreatDoorZ09
import Derived.Test.YtnbccoelbfgmgaaGreatDoorZ11
/- package undo: a log's whole memory; close and Boundary at any log that is not too great. -/
namespace Go.Proofs.YtnbccoelbfgmgaaGreatDoor
open Go.RowKit Go.Lib
set_option linter.unusedVariables false
set_option linter.unusedSimpArgs false
/-- A slice as three data. -/
abbrev Sl3 := Option Addr × Nat × Nat
abbrev sl3 (x : Sl3) : Value := .slice x.1 x.2.1 x.2.2
/-- The blocks of a log. -/
def logFoot (l : Nat) (gv ov : Value) (vs : List Sl3) (k : Nat) : Prop := k = l ∨ gv.ownBlock = some k ∨ ov.ownBlock = some k ∨ ∃ x ∈ vs, (sl3 x).ownBlock = some k
structure LogX (w : World) (l : Nat) (gv ov : Value) (vs : List Sl3) (G : List (List Chg)) (O : List Chg) (ch co nw : Int) : Prop where
  blk : Blk w l 173 (logC gv ov ch co nw)
  gr : ROwn encG 113 1 0 w gv vs
  len : vs.length = G.length
  rows : ∀ (i : Nat) (x : Sl3) (g : List Chg), vs[i]? = some x → G[i]? = some g → ROwn encCg 119 9 0 w (sl3 x) g ∧ 0 < g.length
  op : ROwn encCg 119 9 0 w ov O
  nil : O = [] → ov = .slice none 0 0
  s1 : ∀ k, ov.ownBlock = some k → k ≠ l ∧ gv.ownBlock ≠ some k
  s2 : ∀ k, gv.ownBlock = some k → k ≠ l
  s3 : ∀ x ∈ vs, ∀ k, (sl3 x).ownBlock = some k → k ≠ l ∧ gv.ownBlock ≠ some k ∧ ov.ownBlock ≠ some k
section
variable {w w' : World} {l : Nat} {gv ov : Value} {vs : List Sl3} {G : List (List Chg)} {O : List Chg} {ch co nw : Int}
theorem LogX.foot_lt (h : LogX w l gv ov vs G O ch co nw) {k : Nat} (hk : logFoot l gv ov vs k) : k < w.heap.size := by
  rcases hk with rfl | hk | hk | ⟨x, hx, hk⟩
  · exact h.blk.lt
  · exact h.gr.lt hk
  · exact h.op.lt hk
  · obtain ⟨i, hi⟩ := List.getElem?_of_mem hx
    have hl := (List.getElem?_eq_some_iff.1 hi).1
    rw [h.len] at hl
    exact (h.rows i x _ hi (List.getElem?_eq_getElem hl)).1.lt hk
theorem LogX.kept (h : LogX w l gv ov vs G O ch co nw) (hk : ∀ k, logFoot l gv ov vs k → w'.heap[k]? = w.heap[k]?) : LogX w' l gv ov vs G O ch co nw :=
  ⟨h.blk.kept (hk l (.inl rfl)), h.gr.kept (fun k e => hk k (.inr (.inl e))), h.len, fun i x g h1 h2 => ⟨(h.rows i x g h1 h2).1.kept (fun k e => hk k (.inr (.inr (.inr ⟨x, List.mem_of_getElem? h1, e⟩)))), (h.rows i x g h1 h2).2⟩,
    h.op.kept (fun k e => hk k (.inr (.inr (.inl e)))), h.nil, h.s1, h.s2, h.s3⟩
theorem LogX.up (h : LogX w l gv ov vs G O ch co nw) (hb : Below w.heap.size w w') : LogX w' l gv ov vs G O ch co nw := h.kept (fun k hk => hb.block k (h.foot_lt hk))
theorem LogX.only {S : Nat → Prop} (h : LogX w l gv ov vs G O ch co nw) (ho : Only S w w') (hd : ∀ k, logFoot l gv ov vs k → ¬ S k) : LogX w' l gv ov vs G O ch co nw := h.kept (fun k hk => ho.block k (h.foot_lt hk) (hd k hk))
/-- What a call turns: a log again; its blocks are old ones of its own, or new. -/
def LogTo (w : World) (l : Nat) (gv ov : Value) (vs : List Sl3) (G : List (List Chg)) (O : List Chg) (ch co nw : Int) (w' : World) : Prop :=
  Only (logFoot l gv ov vs) w w' ∧ ∃ gv' ov' vs', LogX w' l gv' ov' vs' G O ch co nw ∧ ∀ k, logFoot l gv' ov' vs' k → logFoot l gv ov vs k ∨ w.heap.size ≤ k
/-- Add, at the whole of a log. -/
theorem ladd {N : Nat} {c : Chg} (h : LogX w l gv ov vs G O ch co nw) (hOl : O.length ≤ 1000000) (hok : ChgOk c) (hT : Tabs N w) (hR : Rules N w) (h0 : 0 ≤ nw) (h1 : nw + priceC c ≤ 1048576) (h2 : 0 ≤ co) (h3 : co ≤ 100000000) :
    Calls Tryz.prog 191 #[.pointer (some ⟨l, 0, none⟩), chgV c] w fun e w' => e = .returned (.int .i64 0) ∧ LogTo w l gv ov vs G (logAdd O c) ch (co + addCost O c) (nw + addCost O c) w' := by
  refine (gadd h.nil h.op hOl (fun k hk => (h.s1 k hk).1) hok hT hR h.blk h0 h1 h2 h3).mono ?_
  rintro e w' ⟨he, v', hown, hblk, hon, hfr⟩
  have hkeep : ∀ k, k < w.heap.size → k ≠ l → ov.ownBlock ≠ some k → w'.heap[k]? = w.heap[k]? := fun k h1 h2 h3 => hon.block k h1 (fun e => e.elim h2 h3)
  refine ⟨he, hon.mono (fun k hk => hk.elim .inl (fun h => .inr (.inr (.inl h)))), gv, v', vs, ⟨hblk, h.gr.kept (fun k e => hkeep k (h.gr.lt e) (h.s2 k e) (fun e2 => (h.s1 k e2).2 e)), h.len, fun i x g h1 h2 => ⟨?_, (h.rows i x g h1 h2).2⟩, hown, fun e => ?_, ?_, h.s2, ?_⟩, ?_⟩
  · have hx := List.mem_of_getElem? h1
    exact (h.rows i x g h1 h2).1.kept (fun k e => hkeep k ((h.rows i x g h1 h2).1.lt e) (h.s3 x hx k e).1 (h.s3 x hx k e).2.2)
  · exfalso
    unfold logAdd at e
    split at e <;> simp at e
  · intro k hk
    rcases hfr k hk with e | e
    · exact h.s1 k e
    · exact ⟨by have := h.blk.lt; omega, fun e2 => by have := h.gr.lt e2; omega⟩
  · intro x hx k hk
    refine ⟨(h.s3 x hx k hk).1, (h.s3 x hx k hk).2.1, fun e => ?_⟩
    rcases hfr k e with e | e
    · exact (h.s3 x hx k hk).2.2 e
    · have := h.foot_lt (.inr (.inr (.inr ⟨x, hx, hk⟩))); omega
  · intro k hk
    rcases hk with rfl | hk | hk | hk
    · exact .inl (.inl rfl)
    · exact .inl (.inr (.inl hk))
    · exact (hfr k hk).elim (fun e => .inl (.inr (.inr (.inl e)))) .inr
    · exact .inl (.inr (.inr (.inr hk)))
set_option maxRecDepth 100000 in
set_option maxHeartbeats 4000000 in
theorem lclose_none (h : LogX w l gv ov vs G [] ch co nw) (hc : co ≤ 1048576) :
    Calls Tryz.prog 117 #[pAt l] w fun r w' => r = .returned (.tuple #[]) ∧ Below w.heap.size w w' := by
  have ho := h.nil rfl
  subst ho
  have c0 := h.blk.cell (j := 0) rfl
  have c2 := h.blk.cell (j := 2) rfl
  have c4 := h.blk.cell (j := 4) rfl
  have d0 : decide ((1048576 : Int) < co) = false := decide_eq_false (by omega)
  have d1 : (1048576 < co) = False := eq_false (by omega)
  clear h hc
  go_enter Tryz.func117, Tryz.ntmps117
  go_wp2_with fail
  go_loopw [3] (fun _ wr => w = wr) (fun _ _ => 0)
  case atStart => rfl
  case round =>
    subst hrel
    go_wp2_with fail
    go_region
    go_wp2_with fail
    go_end0
    exact ⟨rfl, (Below.refl _ w).drew⟩
set_option maxRecDepth 100000 in
set_option maxHeartbeats 4000000 in
theorem lclose_some {A : Option Addr} {cap : Nat} (h : LogX w l gv (.slice A O.length cap) vs G O ch co nw) (hO : 0 < O.length) (hc : co ≤ 1048576) (hv : vs.length ≤ 1000000) :
    Calls Tryz.prog 117 #[pAt l] w fun r w' => r = .returned (.tuple #[]) ∧ LogTo w l gv (.slice A O.length cap) vs (G ++ [O]) [] ch co 0 w' := by
  have hl := h.blk.lt
  obtain ⟨L, hL⟩ : ∃ L, L = O.length := ⟨_, rfl⟩
  obtain ⟨VV, hVV⟩ : ∃ VV : Value, VV = gv := ⟨_, rfl⟩
  obtain ⟨A1, cap1, hgv, hn1, hn2, hr1⟩ := h.gr.shape eltG
  have hVB : ∀ k, VV.ownBlock = some k → k ≠ l ∧ k < w.heap.size := fun k hk => by rw [hVV] at hk; exact ⟨h.s2 k hk, h.gr.lt hk⟩
  obtain ⟨v', w3, happ, hown3, hb3, ho3, hblk3⟩ := append_elem eltG (B := 0) (w := w.drew) (hVV ▸ (h.gr.up ((Below.refl _ w).drew)) : ROwn encG 113 1 0 w.drew VV vs) (Nat.zero_le _) (A, O.length, cap) (by omega) (by omega)
  have hon : Only (fun k => VV.ownBlock = some k) w w3 := ((Only.refl _ w).drew).trans ho3
  have C1 : ∀ x : OnW (fun k => VV.ownBlock = some k) w, x.w.cell? ⟨l, 1, none⟩ = some gv := fun x => (h.blk.only x.on (fun hk => (hVB l hk).1 rfl)).cell (j := 1) rfl
  have C2 : ∀ x : OnW (fun k => VV.ownBlock = some k) w, x.w.cell? ⟨l, 2, none⟩ = some (.slice A O.length cap) := fun x => (h.blk.only x.on (fun hk => (hVB l hk).1 rfl)).cell (j := 2) rfl
  have c2 := h.blk.cell (j := 2) rfl
  have d0 : (0 < L) = True := by simp; omega
  have d1 : decide ((1048576 : Int) < co) = false := decide_eq_false (by omega)
  have d2 : (1048576 < co) = False := eq_false (by omega)
  have hb3' : Hid (∀ k, v'.ownBlock = some k → k ≠ l ∧ (VV.ownBlock = some k ∨ w.heap.size ≤ k)) := Lib.hid (fun k hk => by
    rcases hblk3 with e | ⟨g3, e, hg3⟩
    · rw [e] at hk; exact ⟨(hVB k hk).1, .inl hk⟩
    · rw [e] at hk; cases hk; have : w.heap.size ≤ k := hg3; exact ⟨by omega, .inr this⟩)
  have HP := Lib.hid happ
  have HOWN := Lib.hid hown3
  obtain ⟨A3, cap3, hv3, _, _, _⟩ := hown3.shape eltG
  have hll : (vs ++ [(A, O.length, cap)]).length = vs.length + 1 := by simp
  rw [hll] at hv3
  subst hv3
  rw [hgv] at C1 
  have HON := Lib.hid hon
  have H := Lib.hid h
  have HVV := Lib.hid (⟨hVV, hgv, hVB, hO⟩ : _ ∧ _ ∧ _ ∧ _)
  rw [← hL] at C2 c2
  have HL := Lib.hid hL
  clear h hVV hVB hO happ hown3 hb3 ho3 hblk3 hon hll hc hv hn1 hn2 hr1 hL
  go_enter Tryz.func117, Tryz.ntmps117
  go_wp2_with fail
  clear c2
  refine wp_region_mixS2 (fun k => VV.ownBlock = some k) (fun k => k = l ∨ VV.ownBlock = some k) (fun k hk => .inr hk) [15, 18, 21] (.one [(0, true), (1, false), (2, false), (3, true), (4, true), (5, true), (6, true), (7, true), (8, true), (9, true), (10, true)] 11 (.one [] 12 (.one [(13, false), (14, true)] 15 (.one [(16, false), (17, false)] 18 (.one [(19, false), (20, false)] 21 (.done [])))))) (by kernel_rfl) (fun c d v a w h => by cases d <;> exact h) (by kernel_rfl) ?_
  simp only [wpMixS, wpQ2, pk_nil, pk_cons, pushAt_zero, pushAt_succ, List.contains_cons, List.contains_nil, Bool.false_or, Bool.or_false, Bool.true_or, Bool.or_true, Nat.reduceBEq, Nat.reduceEqDiff]
  repeat (first | go_big_quiet_step (fail) | refine wpQuiet_nil ?_)
  clear C1 C2
  go_wp2_with fail
  refine thenQ_normal ⟨⟨⟨_, (Only.refl _ w).drew.alloc _⟩, rfl⟩, ?_⟩
  have HP2 : ∀ ty, (Builtin.append_ #[171, 171] ty #[.slice A1 vs.length cap1, .slice (some ⟨w.drew.heap.size, 0, none⟩) 1 1]).run Tryz.prog (w.drew.alloc (.cells (encG (A, O.length, cap)).toArray 113)) = .ok (.slice A3 (vs.length + 1) cap3) w3 := by
    have := HP.out
    rw [HVV.out.1, HVV.out.2.1] at this
    exact this
  rw [← HL.out] at HP2
  refine wpList_app_run rfl _ _ _ rfl rfl rfl HP2 ?_
  clear HP2
  go_wp2_with fail
  refine thenQ_normal ⟨⟨⟨_, HON.out⟩, rfl⟩, ?_⟩
  repeat (first | go_big_quiet_step (fail) | refine wpQuiet_nil ?_)
  have h3 : Blk w3 l 173 _ := H.out.blk.only HON.out (fun hk => (HVV.out.2.2.1 l hk).1 rfl)
  have ho : Only (fun k => k = l ∨ VV.ownBlock = some k) w w3 := HON.out.mono (fun k hk => .inr hk)
  have k1 := h3.cell (j := 1) rfl
  have k2 := h3.cell (j := 2) rfl
  have k5 := h3.cell (j := 5) rfl
  have f1 := h3.fz 1
  have f2 := h3.fz 2
  have f5 := h3.fz 5
  have hs0 : Blk (((w3.setCell ⟨l, 1, none⟩ (.slice A3 (vs.length + 1) cap3)).setCell ⟨l, 2, none⟩ (.slice none 0 0)).setCell ⟨l, 5, none⟩ (.int .i64 0)) l 173 (logC (.slice A3 (vs.length + 1) cap3) (.slice none 0 0) ch co 0) :=
    ((h3.set (j := 1) (by simp) (.slice A3 (vs.length + 1) cap3)).set (j := 2) (by simp) (.slice none 0 0)).set (j := 5) (by simp) (.int .i64 0)
  have HS := Lib.hid hs0
  clear hs0 h3
  go_wp2_with fail
  refine thenQ_normal ⟨⟨⟨_, ho.setCell (p := ⟨l, 1, none⟩) (.inl rfl) _⟩, rfl⟩, ?_⟩
  repeat (first | go_big_quiet_step (fail) | refine wpQuiet_nil ?_)
  go_wp2_with fail
  refine thenQ_normal ⟨⟨⟨_, (ho.setCell (p := ⟨l, 1, none⟩) (.inl rfl) _).setCell (p := ⟨l, 2, none⟩) (.inl rfl) _⟩, rfl⟩, ?_⟩
  repeat (first | go_big_quiet_step (fail) | refine wpQuiet_nil ?_)
  go_wp2_with fail
  refine thenQ_normal ⟨⟨⟨_, ((ho.setCell (p := ⟨l, 1, none⟩) (.inl rfl) _).setCell (p := ⟨l, 2, none⟩) (.inl rfl) _).setCell (p := ⟨l, 5, none⟩) (.inl rfl) _⟩, rfl⟩, ?_⟩
  have HO := Lib.hid (((ho.setCell (p := ⟨l, 1, none⟩) (.inl rfl) (.slice A3 (vs.length + 1) cap3)).setCell (p := ⟨l, 2, none⟩) (.inl rfl) (.slice none 0 0)).setCell (p := ⟨l, 5, none⟩) (.inl rfl) (.int .i64 0))
  have HK : Hid (∀ k, k ≠ l → (((w3.setCell ⟨l, 1, none⟩ (.slice A3 (vs.length + 1) cap3)).setCell ⟨l, 2, none⟩ (.slice none 0 0)).setCell ⟨l, 5, none⟩ (.int .i64 0)).heap[k]? = w3.heap[k]?) := Lib.hid (fun k hk =>
    ((Below.heap_setCell _ ⟨l, 5, none⟩ _ _ hk).trans (Below.heap_setCell _ ⟨l, 2, none⟩ _ _ hk)).trans (Below.heap_setCell _ ⟨l, 1, none⟩ _ _ hk))
  clear k1 k2 k5 f1 f2 f5 ho HP
  generalize ((w3.setCell ⟨l, 1, none⟩ (.slice A3 (vs.length + 1) cap3)).setCell ⟨l, 2, none⟩ (.slice none 0 0)).setCell ⟨l, 5, none⟩ (.int .i64 0) = W at *
  have c0 := HS.out.cell (j := 0) rfl
  have c4 := HS.out.cell (j := 4) rfl
  go_wp2_with fail
  go_loopw [3] (fun _ wr => W = wr) (fun _ _ => 0)
  case atStart => rfl
  case round =>
    subst hrel
    go_wp2_with fail
    go_region
    go_wp2_with fail
    go_end0
    obtain ⟨hVV, hgv, hVB, hO⟩ := HVV.out
    subst hVV
    have h := H.out
    have hkW : ∀ k, k < w.heap.size → k ≠ l → VV.ownBlock ≠ some k → W.heap[k]? = w.heap[k]? := fun k h1 h2 h3 => (HK.out k h2).trans (HON.out.block k h1 h3)
    have hnew := hb3'.out
    refine ⟨rfl, (HO.out.drew).mono (fun k hk => hk.elim .inl (fun e => .inr (.inl e))), _, _, vs ++ [(A, O.length, cap)], ⟨HS.out, ?_, by simp [h.len], fun i x g h1 h2 => ?_, ROwn.nil _ _, fun _ => rfl, fun k hk => by simp [Value.ownBlock] at hk, fun k hk => (hnew k hk).1, fun x hx k hk => ?_⟩, fun k hk => ?_⟩
    · exact HOWN.out.kept (fun k e => HK.out k (hnew k e).1)
    · rw [List.getElem?_append] at h1 h2
      rw [h.len] at h1
      split at h1
      · rename_i hi
        rw [if_pos hi] at h2
        have hx := List.mem_of_getElem? h1
        refine ⟨(h.rows i x g h1 h2).1.kept (fun k e => hkW k ((h.rows i x g h1 h2).1.lt e) (h.s3 x hx k e).1 (h.s3 x hx k e).2.1), (h.rows i x g h1 h2).2⟩
      · rename_i hi
        rw [if_neg hi] at h2
        have e0 : i - G.length = 0 := by
          have := (List.getElem?_eq_some_iff.1 h1).1; simp at this; omega
        rw [e0] at h1 h2
        simp only [List.getElem?_cons_zero, Option.some.injEq] at h1 h2
        subst h1 h2
        exact ⟨h.op.kept (fun k e => hkW k (h.op.lt e) (h.s1 k e).1 (h.s1 k e).2), hO⟩
    · have hx2 : (x ∈ vs ∨ x = (A, O.length, cap)) := by simpa using hx
      rcases hx2 with hx2 | rfl
      · refine ⟨(h.s3 x hx2 k hk).1, fun e => ?_, fun e => by simp [Value.ownBlock] at e⟩
        rcases (hnew k e).2 with q | q
        · exact (h.s3 x hx2 k hk).2.1 q
        · have := h.foot_lt (.inr (.inr (.inr ⟨x, hx2, hk⟩))); omega
      · refine ⟨(h.s1 k hk).1, fun e => ?_, fun e => by simp [Value.ownBlock] at e⟩
        rcases (hnew k e).2 with q | q
        · exact (h.s1 k hk).2 q
        · have := h.op.lt hk; omega
    · rcases hk with rfl | hk | hk | ⟨x, hx, hk⟩
      · exact .inl (.inl rfl)
      · exact (hnew k hk).2.elim (fun e => .inl (.inr (.inl e))) .inr
      · simp [Value.ownBlock] at hk
      · have hx2 : (x ∈ vs ∨ x = (A, O.length, cap)) := by simpa using hx
        rcases hx2 with hx2 | rfl
        · exact .inl (.inr (.inr (.inr ⟨x, hx2, hk⟩)))
        · exact .inl (.inr (.inr (.inl hk)))
/-- The groups behind close. -/
def logShut (G : List (List Chg)) (O : List Chg) : List (List Chg) := if O = [] then G else G ++ [O]
theorem lclose_any (h : LogX w l gv ov vs G O ch co nw) (hc : co ≤ 1048576) (hv : vs.length ≤ 1000000) (hn : O = [] → nw = 0) :
    Calls Tryz.prog 117 #[pAt l] w fun r w' => r = .returned (.tuple #[]) ∧ LogTo w l gv ov vs (logShut G O) [] ch co 0 w' := by
  unfold logShut
  by_cases hO : O = []
  · rw [if_pos hO]
    subst hO
    obtain rfl := hn rfl
    exact (lclose_none h hc).mono fun e w' ⟨he, hb⟩ => ⟨he, Only.of_below hb, gv, ov, vs, h.up hb, fun k hk => .inl hk⟩
  · rw [if_neg hO]
    obtain ⟨A, cap, rfl, _⟩ := h.op.shape eltCg
    exact lclose_some h (List.length_pos_iff.2 hO) hc hv
set_option maxHeartbeats 1000000 in
theorem lbound_any (h : LogX w l gv ov vs G O ch co nw) (hc : co ≤ 1048576) (hv : vs.length ≤ 1000000) (hn : O = [] → nw = 0) :
    Calls Tryz.prog 71 #[pAt l] w fun r w' => r = .returned (.int .i64 0) ∧ LogTo w l gv ov vs (logShut G O) [] ch co 0 w' := by
  have HN := Lib.hid (gnoneL h.blk)
  have HC := Lib.hid (lclose_any h hc hv hn)
  clear h hn
  go_enter Tryz.func71, Tryz.ntmps71
  go_wp2_with fail
  refine HN.out.mono ?_
  rintro e w' ⟨rfl, rfl⟩
  go_wp2_with fail
  refine HC.out.mono ?_
  rintro e w' ⟨rfl, hp⟩
  have HPP := Lib.hid hp
  clear hp
  go_wp2_with fail
  go_ret
  exact ⟨rfl, HPP.out⟩
end
end Go.Proofs.YtnbccoelbfgmgaaGreatDoor
/- package buffer: note, any change, any log. -/
namespace Go.Proofs.YtnbccoelbfgmgaaGreatDoor
open Go.RowKit Go.Lib
set_option linter.unusedVariables false
set_option linter.unusedSimpArgs false
/-- The blocks of F, and all from n on. -/
def grow (F : Nat → Prop) (n : Nat) : Nat → Prop := fun k => F k ∨ n ≤ k
theorem Only.grow {F : Nat → Prop} {a b c : World} (h : Only F a b) (k : Only (grow F a.heap.size) b c) : Only F a c := h.then k (fun i hi hl => hi.elim id (fun e => by omega))
theorem grow_mono {F F' : Nat → Prop} {n m : Nat} (hF : ∀ k, F k → F' k) (hn : m ≤ n) : ∀ k, grow F n k → grow F' m k := fun k hk => hk.elim (fun h => .inl (hF k h)) (fun h => .inr (by omega))
theorem grow_two {F : Nat → Prop} {n m : Nat} (hn : n ≤ m) : ∀ k, grow (grow F n) m k → grow F n k := fun k hk => hk.elim id (fun h => .inr (by omega))
/-- A log whose blocks lie in F. -/
def LogF1 (w : World) (l : Nat) (F : Nat → Prop) (G : List (List Chg)) (O : List Chg) (ch co nw : Int) : Prop := ∃ gv ov vs, LogX w l gv ov vs G O ch co nw ∧ ∀ k, logFoot l gv ov vs k → F k
section
variable {w w' : World} {l : Nat} {F F' : Nat → Prop} {G : List (List Chg)} {O : List Chg} {ch co nw : Int}
theorem LogF1.up (h : LogF1 w l F G O ch co nw) (hb : Below w.heap.size w w') : LogF1 w' l F G O ch co nw := by
  obtain ⟨gv, ov, vs, hx, hf⟩ := h; exact ⟨gv, ov, vs, hx.up hb, hf⟩
theorem LogF1.mono (h : LogF1 w l F G O ch co nw) (hF : ∀ k, F k → F' k) : LogF1 w l F' G O ch co nw := by
  obtain ⟨gv, ov, vs, hx, hf⟩ := h; exact ⟨gv, ov, vs, hx, fun k hk => hF k (hf k hk)⟩
theorem LogF1.only {S : Nat → Prop} (h : LogF1 w l F G O ch co nw) (ho : Only S w w') (hd : ∀ k, F k → k < w.heap.size → ¬ S k) : LogF1 w' l F G O ch co nw := by
  obtain ⟨gv, ov, vs, hx, hf⟩ := h; exact ⟨gv, ov, vs, hx.only ho (fun k hk => hd k (hf k hk) (hx.foot_lt hk)), hf⟩
theorem LogF1.lt (h : LogF1 w l F G O ch co nw) : l < w.heap.size ∧ F l := by
  obtain ⟨gv, ov, vs, hx, hf⟩ := h; exact ⟨hx.blk.lt, hf l (.inl rfl)⟩
theorem LogTo.f {gv ov : Value} {vs : List Sl3} (h : LogTo w l gv ov vs G O ch co nw w') (hf : ∀ k, logFoot l gv ov vs k → F k) : LogF1 w' l (grow F w.heap.size) G O ch co nw ∧ Only F w w' := by
  obtain ⟨ho, gv', ov', vs', hx, hf'⟩ := h
  exact ⟨⟨gv', ov', vs', hx, fun k hk => (hf' k hk).elim (fun e => .inl (hf k e)) .inr⟩, ho.mono hf⟩
theorem laddF {N : Nat} {c : Chg} (h : LogF1 w l F G O ch co nw) (hOl : O.length ≤ 1000000) (hok : ChgOk c) (hT : Tabs N w) (hR : Rules N w) (h0 : 0 ≤ nw) (h1 : nw + priceC c ≤ 1048576) (h2 : 0 ≤ co) (h3 : co ≤ 100000000) :
    Calls Tryz.prog 191 #[.pointer (some ⟨l, 0, none⟩), chgV c] w fun e w' => e = .returned (.int .i64 0) ∧ LogF1 w' l (grow F w.heap.size) G (logAdd O c) ch (co + addCost O c) (nw + addCost O c) ∧ Only F w w' := by
  obtain ⟨gv, ov, vs, hx, hf⟩ := h
  exact (ladd hx hOl hok hT hR h0 h1 h2 h3).mono fun e w' ⟨he, ht⟩ => ⟨he, ht.f hf⟩
theorem lboundF (h : LogF1 w l F G O ch co nw) (hc : co ≤ 1048576) (hv : G.length ≤ 1000000) (hn : O = [] → nw = 0) :
    Calls Tryz.prog 71 #[pAt l] w fun r w' => r = .returned (.int .i64 0) ∧ LogF1 w' l (grow F w.heap.size) (logShut G O) [] ch co 0 ∧ Only F w w' := by
  obtain ⟨gv, ov, vs, hx, hf⟩ := h
  exact (lbound_any hx hc (by rw [hx.len]; exact hv) hn).mono fun e w' ⟨he, ht⟩ => ⟨he, ht.f hf⟩
theorem addCost_le (O : List Chg) (c : Chg) : addCost O c ≤ priceC c := by unfold addCost; split <;> omega
theorem logAdd_len (O : List Chg) (c : Chg) : (logAdd O c).length ≤ O.length + 1 := by
  unfold logAdd; split <;> simp
end
abbrev cleanC : Chg := ⟨6, 0, 0, 0, 0, ⟨#[]⟩, 0, 0, false⟩
abbrev pointC (p : Nat) : Chg := ⟨4, p, 0, 0, 0, ⟨#[]⟩, 0, 0, false⟩
theorem cleanC_ok : ChgOk cleanC := ⟨by simp, by simp, by simp, by simp, by simp⟩
theorem pointC_ok {p : Nat} (h1 : 1 ≤ p) (h2 : p ≤ 1000000000) : ChgOk (pointC p) := ⟨by simp, fun _ => ⟨by simp; omega, by simp; omega⟩, by simp, by simp, by simp⟩
theorem price_clean : priceC cleanC = 1 := rfl
theorem price_point (p : Nat) : priceC (pointC p) = 1 := rfl
/-- The open group behind a change that is noted. -/
def noteO (S : BS) (O : List Chg) (c : Chg) : List Chg := if S.empty = true then logAdd (logAdd (if S.tick = S.clean then logAdd O cleanC else O) (pointC S.pt)) c else logAdd O c
/-- What note turns. -/
def NoteP (w : World) (b : Nat) (S : BS) (F : Nat → Prop) (G : List (List Chg)) (O : List Chg) (ch co nw : Int) (d : Nat) (e : Ending) (w' : World) : Prop :=
  e = .returned (.tuple #[]) ∧ Only (fun k => k = b ∨ F k) w w' ∧ BufB w' b { S with empty := false } ∧ ∃ q : Nat, q ≤ d ∧ LogF1 w' S.l (grow F w.heap.size) G O ch (co + q) (nw + q)
section
variable {w w' : World} {b l : Nat} {S : BS} {F : Nat → Prop} {G : List (List Chg)} {O : List Chg} {ch co nw : Int}
set_option maxRecDepth 100000 in
set_option maxHeartbeats 4000000 in
theorem gnote_open {N : Nat} {c : Chg} (hT : Tabs N w) (hR : Rules N w) (h : BufB w b S) (hlg : S.logs = true) (hem : S.empty = false) (hpt : 1 ≤ S.pt ∧ S.pt ≤ 1000000000) (hNF : ∀ k, F k → N ≤ k) (hNb : N ≤ b) (hbF : ¬ F b) (hFb : ∀ k, F k → k < w.heap.size)
    (hL : LogF1 w S.l F G O ch co nw) (hok : ChgOk c) (hOl : O.length ≤ 999990) (h0 : 0 ≤ nw) (h1 : nw + priceC c + 2 ≤ 1048576) (h2 : 0 ≤ co) (h3 : co ≤ 90000000) :
    Calls Tryz.prog 152 #[pAt b, chgV c] w (NoteP w b S F G (logAdd O c) ch co nw (priceC c + 2)) := by
  obtain ⟨pt, lo, hi, mark, marked, ro, fo, tick, clean, t, m, p, o, l, logs, empty, lock, saved, tokens⟩ := S
  simp only at hlg hem hpt hL ⊢
  subst hlg hem
  have c14 := h.cell (j := 14) rfl
  have c15 := h.cell (j := 15) rfl
  have c13 := h.cell (j := 13) rfl
  obtain ⟨w0, hw0⟩ : ∃ w0, w = w0 := ⟨_, rfl⟩
  have h0' : BufB w0 b ⟨pt, lo, hi, mark, marked, ro, fo, tick, clean, t, m, p, o, l, true, false, lock, saved, tokens⟩ := hw0 ▸ h
  have ho0 : Only (fun k => k = b) w w0 := hw0 ▸ Only.refl _ w
  have hsz0 : w0.heap.size = w.heap.size := by rw [← hw0]
  have hL0 : LogF1 w0 l F G O ch co nw := hL.only ho0 (fun k hk _ e => hbF (e ▸ hk))
  have hR0 : Rules N w0 := hR.only ho0 (fun k hk => hk ▸ hNb)
  have hT0 : Tabs N w0 := hT.only ho0 (fun k hk => hk ▸ hNb)
  have hb1 := below1 w0 (.cells (chgA c) 119)
  have hk := Blk.made w0 119 (chgA c)
  have hlw := hL.lt.1
  have hlF := hL.lt.2
  have hbw := h.lt
  have hbw0 : b < w0.heap.size := h0'.lt
  have hbl : b ≠ l := fun e => hbF (e ▸ hlF)
  rw [hsz0] at hk
  have d13 := h0'.cell (j := 13) rfl
  have d7 : w0.cell? ⟨b, 7, none⟩ = some (.int .i64 (tick : Int)) := h0'.cell (j := 7) rfl
  have d8 : w0.cell? ⟨b, 8, none⟩ = some (.int .i64 (clean : Int)) := h0'.cell (j := 8) rfl
  have hs1 : w.heap.size < (w0.alloc (.cells (chgA c) 119)).heap.size := by simp [hsz0]
  have hOF := ho0.trans (Only.of_below hb1)
  have H1 := Lib.hid (h0'.up hb1)
  have R1 := Lib.hid (hR0.up hb1)
  have T1 := Lib.hid (hT0.up hb1)
  have L1 := Lib.hid (hL0.up hb1)
  have K1 := Lib.hid hk
  have O1 := Lib.hid hOF
  have NL := Lib.hid (⟨hNF, hNb, hbF, hlF, hpt, hok, hFb⟩ : _ ∧ _ ∧ _ ∧ _ ∧ _ ∧ _ ∧ _)
  have BD := Lib.hid (⟨hOl, h0, h1, h2, h3⟩ : _ ∧ _ ∧ _ ∧ _ ∧ _)
  have HBL := Lib.hid hbl
  have S1 := Lib.hid (⟨hs1, hbw, hlw⟩ : _ ∧ _ ∧ _)
  have h0W := Lib.hid h0'
  obtain ⟨ck, ca, cb, cid, cnm, ctx, cvk, cvn, chd⟩ := c
  clear h hR hT hL hk hb1 h0' hL0 hR0 hT0 ho0 hNF hNb hbF hlF hpt hok hFb hOl h0 h1 h2 h3 hs1 hsz0 hOF
  go_enter Tryz.func152, Tryz.ntmps152
  subst hw0
  have hw0 : True := trivial
  go_wp2_with fail
  generalize w.alloc (.cells (chgA ⟨ck, ca, cb, cid, cnm, ctx, cvk, cvn, chd⟩) 119) = W at *
  have hsW : w.heap.size < W.heap.size := S1.out.1
  have hbT : ¬ grow F W.heap.size b := fun h => h.elim NL.out.2.2.1 (fun e => by have := S1.out.2.1; omega)
  have hkT : ¬ grow F W.heap.size w.heap.size := fun h => h.elim (fun e => by have := NL.out.2.2.2.2.2.2 _ e; omega) (fun e => by omega)
  have hTN : ∀ k, grow F W.heap.size k → N ≤ k := fun k hk => hk.elim (NL.out.1 k) (fun e => by have := NL.out.2.1; have := S1.out.2.1; omega)
  have HTT := Lib.hid (⟨hbT, hkT, hTN⟩ : _ ∧ _ ∧ _)
  clear hbT hkT hTN hsW
  clear c14 c15 c13 d13 d7 d8
  have HA := Lib.hid (show BufB W b _ from H1.out.up (Below.refl W.heap.size W))
  have RA := Lib.hid (show Rules N W from R1.out.up (Below.refl W.heap.size W))
  have TA := Lib.hid (show Tabs N W from T1.out.up (Below.refl W.heap.size W))
  have KA := Lib.hid (show Blk W w.heap.size 119 _ from K1.out.up (Below.refl W.heap.size W))
  have LA := Lib.hid (show LogF1 W l F G O ch co nw from L1.out.up (Below.refl W.heap.size W))
  have OA := Lib.hid (show Only (grow F W.heap.size) W W from Only.of_below (Below.refl W.heap.size W))
  have QA : Hid (∃ q : Nat, q ≤ 0 ∧ LogF1 W l (grow F W.heap.size) G O ch (co + q) (nw + q)) := Lib.hid ⟨0, Nat.le_refl _, by simpa using LA.out.mono (fun k hk => .inl hk)⟩
  clear H1 R1 T1 K1 L1 LA
  have hd := (Below.refl (W).heap.size (W)).drew
  have hbT := HTT.out.1
  have hkT := HTT.out.2.1
  have T13 : ∀ x : OnW (grow F W.heap.size) (W), x.w.cell? ⟨b, 13, none⟩ = some (pAt l) := fun x => (HA.out.only x.on hbT).cell (j := 13) rfl
  have CB : ∀ x : OnW (grow F W.heap.size) (W), Blk x.w w.heap.size 119 _ := fun x => KA.out.only x.on hkT
  have b0 := fun x => (CB x).cell (j := 0) rfl
  have b1 := fun x => (CB x).cell (j := 1) rfl
  have b2 := fun x => (CB x).cell (j := 2) rfl
  have b3 := fun x => (CB x).cell (j := 3) rfl
  have b4 := fun x => (CB x).cell (j := 4) rfl
  have b5 := fun x => (CB x).cell (j := 5) rfl
  have b6 := fun x => (CB x).cell (j := 6) rfl
  have b7 := fun x => (CB x).cell (j := 7) rfl
  have b8 := fun x => (CB x).cell (j := 8) rfl
  clear CB hbT hkT
  refine wp_region_mixO (grow F W.heap.size) 6 (.one [0, 1, 2, 3, 4] 5 (.done [])) (by kernel_rfl) (fun c d v a w h => by cases d <;> exact h) (by kernel_rfl) ?_
  simp only [wpMixT, pk_nil, pk_cons, pushAt_zero, pushAt_succ, List.drop_succ_cons, List.drop_zero]
  repeat (go_big_quiet_step (fail))
  refine wpQuiet_nil ?_
  clear T13 b0 b1 b2 b3 b4 b5 b6 b7 b8
  go_wp2_with fail
  obtain ⟨q, hq, hqL⟩ := QA.out
  refine (laddF (hqL.up hd) (by have := BD.out; skip; omega) NL.out.2.2.2.2.2.1 (TA.out.up hd) (RA.out.up hd) (by have := BD.out; omega) (by skip; have := BD.out; omega) (by have := BD.out; omega) (by have := BD.out; omega)).mono ?_
  rintro r w2 ⟨rfl, hq2, ho2⟩
  have hs2 := ho2.size
  have ho2 : Only (grow F W.heap.size) (W) w2 := ((Only.refl _ (W)).drew).trans ho2
  go_wp2_with fail
  refine thenQ_normal ⟨⟨⟨_, ho2⟩, rfl⟩, ?_⟩
  refine wpQuiet_nil ?_
  go_wp2_with fail
  go_end0
  have hsW : w.heap.size < W.heap.size := S1.out.1
  have hOO : Only (fun k => k = b ∨ F k) w w2 := (O1.out.mono (fun k hk => .inl hk)).then (OA.out.trans ho2) (fun k hk hlt => hk.elim .inr (fun e => by omega))
  refine ⟨rfl, hOO, HA.out.only ho2 HTT.out.1, q + addCost O ⟨ck, ca, cb, cid, cnm, ctx, cvk, cvn, chd⟩, ?_, ?_⟩
  · have := addCost_le O ⟨ck, ca, cb, cid, cnm, ctx, cvk, cvn, chd⟩; omega
  · have := (hq2.mono (grow_two (show W.heap.size ≤ (W).drew.heap.size from OA.out.size))).mono (grow_mono (F' := F) (m := w.heap.size) (fun k hk => hk) (by omega))
    simpa [Int.add_assoc] using this
set_option maxRecDepth 100000 in
set_option maxHeartbeats 4000000 in
theorem gnote_first {N : Nat} {c : Chg} (hT : Tabs N w) (hR : Rules N w) (h : BufB w b S) (hlg : S.logs = true) (hem : S.empty = true) (htk : S.tick = S.clean) (hpt : 1 ≤ S.pt ∧ S.pt ≤ 1000000000) (hNF : ∀ k, F k → N ≤ k) (hNb : N ≤ b) (hbF : ¬ F b) (hFb : ∀ k, F k → k < w.heap.size)
    (hL : LogF1 w S.l F G O ch co nw) (hok : ChgOk c) (hOl : O.length ≤ 999990) (h0 : 0 ≤ nw) (h1 : nw + priceC c + 2 ≤ 1048576) (h2 : 0 ≤ co) (h3 : co ≤ 90000000) :
    Calls Tryz.prog 152 #[pAt b, chgV c] w (NoteP w b S F G (logAdd (logAdd (logAdd O cleanC) (pointC S.pt)) c) ch co nw (priceC c + 2)) := by
  obtain ⟨pt, lo, hi, mark, marked, ro, fo, tick, clean, t, m, p, o, l, logs, empty, lock, saved, tokens⟩ := S
  simp only at hlg hem hpt hL ⊢ htk
  subst hlg hem
  subst htk
  have c14 := h.cell (j := 14) rfl
  have c15 := h.cell (j := 15) rfl
  have c13 := h.cell (j := 13) rfl
  have f15 := h.fz 15
  have c7 : w.cell? ⟨b, 7, none⟩ = some (.int .i64 (tick : Int)) := h.cell (j := 7) rfl
  have c8 : w.cell? ⟨b, 8, none⟩ = some (.int .i64 (tick : Int)) := h.cell (j := 8) rfl
  obtain ⟨w0, hw0⟩ : ∃ w0, w.setCell ⟨b, 15, none⟩ (.bool false) = w0 := ⟨_, rfl⟩
  have h0' : BufB w0 b ⟨pt, lo, hi, mark, marked, ro, fo, tick, tick, t, m, p, o, l, true, false, lock, saved, tokens⟩ := hw0 ▸ h.set (j := 15) (by simp) (.bool false)
  have ho0 : Only (fun k => k = b) w w0 := hw0 ▸ Only.setCell (S := fun k => k = b) (p := ⟨b, 15, none⟩) (Only.refl _ w) rfl _
  have hsz0 : w0.heap.size = w.heap.size := by rw [← hw0]; simp
  have hL0 : LogF1 w0 l F G O ch co nw := hL.only ho0 (fun k hk _ e => hbF (e ▸ hk))
  have hR0 : Rules N w0 := hR.only ho0 (fun k hk => hk ▸ hNb)
  have hT0 : Tabs N w0 := hT.only ho0 (fun k hk => hk ▸ hNb)
  have hb1 := below1 w0 (.cells (chgA c) 119)
  have hk := Blk.made w0 119 (chgA c)
  have hlw := hL.lt.1
  have hlF := hL.lt.2
  have hbw := h.lt
  have hbw0 : b < w0.heap.size := h0'.lt
  have hbl : b ≠ l := fun e => hbF (e ▸ hlF)
  rw [hsz0] at hk
  have d13 := h0'.cell (j := 13) rfl
  have d7 : w0.cell? ⟨b, 7, none⟩ = some (.int .i64 (tick : Int)) := h0'.cell (j := 7) rfl
  have d8 : w0.cell? ⟨b, 8, none⟩ = some (.int .i64 (tick : Int)) := h0'.cell (j := 8) rfl
  have hs1 : w.heap.size < (w0.alloc (.cells (chgA c) 119)).heap.size := by simp [hsz0]
  have hOF := ho0.trans (Only.of_below hb1)
  have H1 := Lib.hid (h0'.up hb1)
  have R1 := Lib.hid (hR0.up hb1)
  have T1 := Lib.hid (hT0.up hb1)
  have L1 := Lib.hid (hL0.up hb1)
  have K1 := Lib.hid hk
  have O1 := Lib.hid hOF
  have NL := Lib.hid (⟨hNF, hNb, hbF, hlF, hpt, hok, hFb⟩ : _ ∧ _ ∧ _ ∧ _ ∧ _ ∧ _ ∧ _)
  have BD := Lib.hid (⟨hOl, h0, h1, h2, h3⟩ : _ ∧ _ ∧ _ ∧ _ ∧ _)
  have HBL := Lib.hid hbl
  have S1 := Lib.hid (⟨hs1, hbw, hlw⟩ : _ ∧ _ ∧ _)
  have h0W := Lib.hid h0'
  obtain ⟨ck, ca, cb, cid, cnm, ctx, cvk, cvn, chd⟩ := c
  clear h hR hT hL hk hb1 h0' hL0 hR0 hT0 ho0 hNF hNb hbF hlF hpt hok hFb hOl h0 h1 h2 h3 hs1 hsz0 hOF
  go_enter Tryz.func152, Tryz.ntmps152
  go_wp2_with fail
  go_region
  go_wp2_with fail
  generalize w0.alloc (.cells (chgA ⟨ck, ca, cb, cid, cnm, ctx, cvk, cvn, chd⟩) 119) = W at *
  have hsW : w.heap.size < W.heap.size := S1.out.1
  have hbT : ¬ grow F W.heap.size b := fun h => h.elim NL.out.2.2.1 (fun e => by have := S1.out.2.1; omega)
  have hkT : ¬ grow F W.heap.size w.heap.size := fun h => h.elim (fun e => by have := NL.out.2.2.2.2.2.2 _ e; omega) (fun e => by omega)
  have hTN : ∀ k, grow F W.heap.size k → N ≤ k := fun k hk => hk.elim (NL.out.1 k) (fun e => by have := NL.out.2.1; have := S1.out.2.1; omega)
  have HTT := Lib.hid (⟨hbT, hkT, hTN⟩ : _ ∧ _ ∧ _)
  clear hbT hkT hTN hsW
  clear c14 c15 f15 c7 c8 c13 hw0 d7 d8 d13
  have HA := Lib.hid (show BufB W.drew b _ from H1.out.up (Below.refl W.heap.size W).drew)
  have RA := Lib.hid (show Rules N W.drew from R1.out.up (Below.refl W.heap.size W).drew)
  have TA := Lib.hid (show Tabs N W.drew from T1.out.up (Below.refl W.heap.size W).drew)
  have KA := Lib.hid (show Blk W.drew w.heap.size 119 _ from K1.out.up (Below.refl W.heap.size W).drew)
  have LA := Lib.hid (show LogF1 W.drew l F G O ch co nw from L1.out.up (Below.refl W.heap.size W).drew)
  have OA := Lib.hid (show Only (grow F W.heap.size) W W.drew from Only.of_below (Below.refl W.heap.size W).drew)
  have QA : Hid (∃ q : Nat, q ≤ 0 ∧ LogF1 W.drew l (grow F W.heap.size) G O ch (co + q) (nw + q)) := Lib.hid ⟨0, Nat.le_refl _, by simpa using LA.out.mono (fun k hk => .inl hk)⟩
  clear H1 R1 T1 K1 L1 LA
  obtain ⟨q, hq, hqL⟩ := QA.out
  refine (laddF hqL (by have := BD.out; omega) cleanC_ok TA.out RA.out (by have := BD.out; omega) (by rw [price_clean]; have := BD.out; omega) (by have := BD.out; omega) (by have := BD.out; omega)).mono ?_
  rintro r w2 ⟨rfl, hq2, ho2⟩
  have ho2' : Only (grow F W.heap.size) W w2 := (OA.out).trans ho2
  have hs2 := ho2.size
  have H2 := Lib.hid (HA.out.only ho2 HTT.out.1)
  have K2 := Lib.hid (KA.out.only ho2 HTT.out.2.1)
  have R2 := Lib.hid (RA.out.only ho2 HTT.out.2.2)
  have T2 := Lib.hid (TA.out.only ho2 HTT.out.2.2)
  have O2 := Lib.hid ho2'
  have Q2 : Hid (∃ q : Nat, q ≤ 1 ∧ LogF1 w2 l (grow F W.heap.size) G (logAdd O cleanC) ch (co + q) (nw + q)) := Lib.hid ⟨q + addCost O cleanC, by have := addCost_le O cleanC; rw [price_clean] at this; omega, by
    have := hq2.mono (grow_two OA.out.size)
    simpa [Int.add_assoc] using this⟩
  clear HA KA RA TA OA QA hq hqL hq2 ho2 ho2' hs2 q
  have HA := Lib.hid H2.out
  have KA := Lib.hid K2.out
  have RA := Lib.hid R2.out
  have TA := Lib.hid T2.out
  have OA := Lib.hid O2.out
  have QA := Lib.hid Q2.out
  clear H2 K2 R2 T2 O2 Q2
  go_wp2_with fail
  have hd := (Below.refl (w2).heap.size (w2)).drew
  have hbT := HTT.out.1
  have hkT := HTT.out.2.1
  have T13 : ∀ x : OnW (grow F W.heap.size) (w2), x.w.cell? ⟨b, 13, none⟩ = some (pAt l) := fun x => (HA.out.only x.on hbT).cell (j := 13) rfl
  have T0 : ∀ x : OnW (grow F W.heap.size) (w2), x.w.cell? ⟨b, 0, none⟩ = some (.int .i64 (pt : Int)) := fun x => (HA.out.only x.on hbT).cell (j := 0) rfl
  clear hbT hkT
  refine wp_region_mixO (grow F W.heap.size) 11 (.one [0, 1, 2, 3, 4, 5, 6, 7, 8, 9] 10 (.done [])) (by kernel_rfl) (fun c d v a w h => by cases d <;> exact h) (by kernel_rfl) ?_
  simp only [wpMixT, pk_nil, pk_cons, pushAt_zero, pushAt_succ, List.drop_succ_cons, List.drop_zero]
  repeat (go_big_quiet_step (fail))
  refine wpQuiet_nil ?_
  clear T0 T13
  go_wp2_with fail
  obtain ⟨q, hq, hqL⟩ := QA.out
  refine (laddF (hqL.up hd) (by have := BD.out; have := logAdd_len O cleanC; omega) (pointC_ok NL.out.2.2.2.2.1.1 NL.out.2.2.2.2.1.2) (TA.out.up hd) (RA.out.up hd) (by have := BD.out; omega) (by rw [price_point]; have := BD.out; omega) (by have := BD.out; omega) (by have := BD.out; omega)).mono ?_
  rintro r w3 ⟨rfl, hq2, ho2⟩
  have hs2 := ho2.size
  have ho2 : Only (grow F W.heap.size) (w2) w3 := ((Only.refl _ (w2)).drew).trans ho2
  go_wp2_with fail
  refine thenQ_normal ⟨⟨⟨_, ho2⟩, rfl⟩, ?_⟩
  refine wpQuiet_nil ?_
  have ho2' : Only (grow F W.heap.size) W w3 := (OA.out).trans ho2
  have H2 := Lib.hid (HA.out.only ho2 HTT.out.1)
  have K2 := Lib.hid (KA.out.only ho2 HTT.out.2.1)
  have R2 := Lib.hid (RA.out.only ho2 HTT.out.2.2)
  have T2 := Lib.hid (TA.out.only ho2 HTT.out.2.2)
  have O2 := Lib.hid ho2'
  have Q2 : Hid (∃ q : Nat, q ≤ 2 ∧ LogF1 w3 l (grow F W.heap.size) G (logAdd (logAdd O cleanC) (pointC pt)) ch (co + q) (nw + q)) := Lib.hid ⟨q + addCost (logAdd O cleanC) (pointC pt), by have := addCost_le (logAdd O cleanC) (pointC pt); rw [price_point] at this; omega, by
    have := hq2.mono (grow_two (show W.heap.size ≤ (w2).drew.heap.size from OA.out.size))
    simpa [Int.add_assoc] using this⟩
  clear HA KA RA TA OA QA hq hqL hq2 ho2 ho2' hs2 hd q
  have HA := Lib.hid H2.out
  have KA := Lib.hid K2.out
  have RA := Lib.hid R2.out
  have TA := Lib.hid T2.out
  have OA := Lib.hid O2.out
  have QA := Lib.hid Q2.out
  clear H2 K2 R2 T2 O2 Q2
  go_wp2_with fail
  have hd := (Below.refl (w3).heap.size (w3)).drew
  have hbT := HTT.out.1
  have hkT := HTT.out.2.1
  have T13 : ∀ x : OnW (grow F W.heap.size) (w3), x.w.cell? ⟨b, 13, none⟩ = some (pAt l) := fun x => (HA.out.only x.on hbT).cell (j := 13) rfl
  have CB : ∀ x : OnW (grow F W.heap.size) (w3), Blk x.w w.heap.size 119 _ := fun x => KA.out.only x.on hkT
  have b0 := fun x => (CB x).cell (j := 0) rfl
  have b1 := fun x => (CB x).cell (j := 1) rfl
  have b2 := fun x => (CB x).cell (j := 2) rfl
  have b3 := fun x => (CB x).cell (j := 3) rfl
  have b4 := fun x => (CB x).cell (j := 4) rfl
  have b5 := fun x => (CB x).cell (j := 5) rfl
  have b6 := fun x => (CB x).cell (j := 6) rfl
  have b7 := fun x => (CB x).cell (j := 7) rfl
  have b8 := fun x => (CB x).cell (j := 8) rfl
  clear CB hbT hkT
  refine wp_region_mixO (grow F W.heap.size) 6 (.one [0, 1, 2, 3, 4] 5 (.done [])) (by kernel_rfl) (fun c d v a w h => by cases d <;> exact h) (by kernel_rfl) ?_
  simp only [wpMixT, pk_nil, pk_cons, pushAt_zero, pushAt_succ, List.drop_succ_cons, List.drop_zero]
  repeat (go_big_quiet_step (fail))
  refine wpQuiet_nil ?_
  clear T13 b0 b1 b2 b3 b4 b5 b6 b7 b8
  go_wp2_with fail
  obtain ⟨q, hq, hqL⟩ := QA.out
  refine (laddF (hqL.up hd) (by have := BD.out; have := logAdd_len O cleanC; have := logAdd_len (logAdd O cleanC) (pointC pt); omega) NL.out.2.2.2.2.2.1 (TA.out.up hd) (RA.out.up hd) (by have := BD.out; omega) (by skip; have := BD.out; omega) (by have := BD.out; omega) (by have := BD.out; omega)).mono ?_
  rintro r w4 ⟨rfl, hq2, ho2⟩
  have hs2 := ho2.size
  have ho2 : Only (grow F W.heap.size) (w3) w4 := ((Only.refl _ (w3)).drew).trans ho2
  go_wp2_with fail
  refine thenQ_normal ⟨⟨⟨_, ho2⟩, rfl⟩, ?_⟩
  refine wpQuiet_nil ?_
  go_wp2_with fail
  go_end0
  have hsW : w.heap.size < W.heap.size := S1.out.1
  have hOO : Only (fun k => k = b ∨ F k) w w4 := (O1.out.mono (fun k hk => .inl hk)).then (OA.out.trans ho2) (fun k hk hlt => hk.elim .inr (fun e => by omega))
  refine ⟨rfl, hOO, HA.out.only ho2 HTT.out.1, q + addCost (logAdd (logAdd O cleanC) (pointC pt)) ⟨ck, ca, cb, cid, cnm, ctx, cvk, cvn, chd⟩, ?_, ?_⟩
  · have := addCost_le (logAdd (logAdd O cleanC) (pointC pt)) ⟨ck, ca, cb, cid, cnm, ctx, cvk, cvn, chd⟩; omega
  · have := (hq2.mono (grow_two (show W.heap.size ≤ (w3).drew.heap.size from OA.out.size))).mono (grow_mono (F' := F) (m := w.heap.size) (fun k hk => hk) (by omega))
    simpa [Int.add_assoc] using this
set_option maxRecDepth 100000 in
set_option maxHeartbeats 4000000 in
theorem gnote_more {N : Nat} {c : Chg} (hT : Tabs N w) (hR : Rules N w) (h : BufB w b S) (hlg : S.logs = true) (hem : S.empty = true) (htk : S.tick ≠ S.clean) (hpt : 1 ≤ S.pt ∧ S.pt ≤ 1000000000) (hNF : ∀ k, F k → N ≤ k) (hNb : N ≤ b) (hbF : ¬ F b) (hFb : ∀ k, F k → k < w.heap.size)
    (hL : LogF1 w S.l F G O ch co nw) (hok : ChgOk c) (hOl : O.length ≤ 999990) (h0 : 0 ≤ nw) (h1 : nw + priceC c + 2 ≤ 1048576) (h2 : 0 ≤ co) (h3 : co ≤ 90000000) :
    Calls Tryz.prog 152 #[pAt b, chgV c] w (NoteP w b S F G (logAdd (logAdd O (pointC S.pt)) c) ch co nw (priceC c + 2)) := by
  obtain ⟨pt, lo, hi, mark, marked, ro, fo, tick, clean, t, m, p, o, l, logs, empty, lock, saved, tokens⟩ := S
  simp only at hlg hem hpt hL ⊢ htk
  subst hlg hem
  have c14 := h.cell (j := 14) rfl
  have c15 := h.cell (j := 15) rfl
  have c13 := h.cell (j := 13) rfl
  have f15 := h.fz 15
  have c7 : w.cell? ⟨b, 7, none⟩ = some (.int .i64 (tick : Int)) := h.cell (j := 7) rfl
  have c8 : w.cell? ⟨b, 8, none⟩ = some (.int .i64 (clean : Int)) := h.cell (j := 8) rfl
  have e1 : ((tick : Int) == (clean : Int)) = false := by simp; omega
  have e2 : (tick = clean) = False := eq_false htk
  have e3 : ((tick : Int) = (clean : Int)) = False := eq_false (by omega)
  clear htk
  obtain ⟨w0, hw0⟩ : ∃ w0, w.setCell ⟨b, 15, none⟩ (.bool false) = w0 := ⟨_, rfl⟩
  have h0' : BufB w0 b ⟨pt, lo, hi, mark, marked, ro, fo, tick, clean, t, m, p, o, l, true, false, lock, saved, tokens⟩ := hw0 ▸ h.set (j := 15) (by simp) (.bool false)
  have ho0 : Only (fun k => k = b) w w0 := hw0 ▸ Only.setCell (S := fun k => k = b) (p := ⟨b, 15, none⟩) (Only.refl _ w) rfl _
  have hsz0 : w0.heap.size = w.heap.size := by rw [← hw0]; simp
  have hL0 : LogF1 w0 l F G O ch co nw := hL.only ho0 (fun k hk _ e => hbF (e ▸ hk))
  have hR0 : Rules N w0 := hR.only ho0 (fun k hk => hk ▸ hNb)
  have hT0 : Tabs N w0 := hT.only ho0 (fun k hk => hk ▸ hNb)
  have hb1 := below1 w0 (.cells (chgA c) 119)
  have hk := Blk.made w0 119 (chgA c)
  have hlw := hL.lt.1
  have hlF := hL.lt.2
  have hbw := h.lt
  have hbw0 : b < w0.heap.size := h0'.lt
  have hbl : b ≠ l := fun e => hbF (e ▸ hlF)
  rw [hsz0] at hk
  have d13 := h0'.cell (j := 13) rfl
  have d7 : w0.cell? ⟨b, 7, none⟩ = some (.int .i64 (tick : Int)) := h0'.cell (j := 7) rfl
  have d8 : w0.cell? ⟨b, 8, none⟩ = some (.int .i64 (clean : Int)) := h0'.cell (j := 8) rfl
  have hs1 : w.heap.size < (w0.alloc (.cells (chgA c) 119)).heap.size := by simp [hsz0]
  have hOF := ho0.trans (Only.of_below hb1)
  have H1 := Lib.hid (h0'.up hb1)
  have R1 := Lib.hid (hR0.up hb1)
  have T1 := Lib.hid (hT0.up hb1)
  have L1 := Lib.hid (hL0.up hb1)
  have K1 := Lib.hid hk
  have O1 := Lib.hid hOF
  have NL := Lib.hid (⟨hNF, hNb, hbF, hlF, hpt, hok, hFb⟩ : _ ∧ _ ∧ _ ∧ _ ∧ _ ∧ _ ∧ _)
  have BD := Lib.hid (⟨hOl, h0, h1, h2, h3⟩ : _ ∧ _ ∧ _ ∧ _ ∧ _)
  have HBL := Lib.hid hbl
  have S1 := Lib.hid (⟨hs1, hbw, hlw⟩ : _ ∧ _ ∧ _)
  have h0W := Lib.hid h0'
  obtain ⟨ck, ca, cb, cid, cnm, ctx, cvk, cvn, chd⟩ := c
  clear h hR hT hL hk hb1 h0' hL0 hR0 hT0 ho0 hNF hNb hbF hlF hpt hok hFb hOl h0 h1 h2 h3 hs1 hsz0 hOF
  go_enter Tryz.func152, Tryz.ntmps152
  go_wp2_with fail
  go_region
  go_wp2_with fail
  generalize w0.alloc (.cells (chgA ⟨ck, ca, cb, cid, cnm, ctx, cvk, cvn, chd⟩) 119) = W at *
  have hsW : w.heap.size < W.heap.size := S1.out.1
  have hbT : ¬ grow F W.heap.size b := fun h => h.elim NL.out.2.2.1 (fun e => by have := S1.out.2.1; omega)
  have hkT : ¬ grow F W.heap.size w.heap.size := fun h => h.elim (fun e => by have := NL.out.2.2.2.2.2.2 _ e; omega) (fun e => by omega)
  have hTN : ∀ k, grow F W.heap.size k → N ≤ k := fun k hk => hk.elim (NL.out.1 k) (fun e => by have := NL.out.2.1; have := S1.out.2.1; omega)
  have HTT := Lib.hid (⟨hbT, hkT, hTN⟩ : _ ∧ _ ∧ _)
  clear hbT hkT hTN hsW
  clear c14 c15 f15 c7 c8 c13 hw0 d7 d8 d13
  have HA := Lib.hid (show BufB W.drew b _ from H1.out.up (Below.refl W.heap.size W).drew)
  have RA := Lib.hid (show Rules N W.drew from R1.out.up (Below.refl W.heap.size W).drew)
  have TA := Lib.hid (show Tabs N W.drew from T1.out.up (Below.refl W.heap.size W).drew)
  have KA := Lib.hid (show Blk W.drew w.heap.size 119 _ from K1.out.up (Below.refl W.heap.size W).drew)
  have LA := Lib.hid (show LogF1 W.drew l F G O ch co nw from L1.out.up (Below.refl W.heap.size W).drew)
  have OA := Lib.hid (show Only (grow F W.heap.size) W W.drew from Only.of_below (Below.refl W.heap.size W).drew)
  have QA : Hid (∃ q : Nat, q ≤ 0 ∧ LogF1 W.drew l (grow F W.heap.size) G O ch (co + q) (nw + q)) := Lib.hid ⟨0, Nat.le_refl _, by simpa using LA.out.mono (fun k hk => .inl hk)⟩
  clear H1 R1 T1 K1 L1 LA
  have hd := (Below.refl (W.drew).heap.size (W.drew)).drew
  have hbT := HTT.out.1
  have hkT := HTT.out.2.1
  have T13 : ∀ x : OnW (grow F W.heap.size) (W.drew), x.w.cell? ⟨b, 13, none⟩ = some (pAt l) := fun x => (HA.out.only x.on hbT).cell (j := 13) rfl
  have T0 : ∀ x : OnW (grow F W.heap.size) (W.drew), x.w.cell? ⟨b, 0, none⟩ = some (.int .i64 (pt : Int)) := fun x => (HA.out.only x.on hbT).cell (j := 0) rfl
  clear hbT hkT
  refine wp_region_mixO (grow F W.heap.size) 11 (.one [0, 1, 2, 3, 4, 5, 6, 7, 8, 9] 10 (.done [])) (by kernel_rfl) (fun c d v a w h => by cases d <;> exact h) (by kernel_rfl) ?_
  simp only [wpMixT, pk_nil, pk_cons, pushAt_zero, pushAt_succ, List.drop_succ_cons, List.drop_zero]
  repeat (go_big_quiet_step (fail))
  refine wpQuiet_nil ?_
  clear T0 T13
  go_wp2_with fail
  obtain ⟨q, hq, hqL⟩ := QA.out
  refine (laddF (hqL.up hd) (by have := BD.out; skip; omega) (pointC_ok NL.out.2.2.2.2.1.1 NL.out.2.2.2.2.1.2) (TA.out.up hd) (RA.out.up hd) (by have := BD.out; omega) (by rw [price_point]; have := BD.out; omega) (by have := BD.out; omega) (by have := BD.out; omega)).mono ?_
  rintro r w2 ⟨rfl, hq2, ho2⟩
  have hs2 := ho2.size
  have ho2 : Only (grow F W.heap.size) (W.drew) w2 := ((Only.refl _ (W.drew)).drew).trans ho2
  go_wp2_with fail
  refine thenQ_normal ⟨⟨⟨_, ho2⟩, rfl⟩, ?_⟩
  refine wpQuiet_nil ?_
  have ho2' : Only (grow F W.heap.size) W w2 := (OA.out).trans ho2
  have H2 := Lib.hid (HA.out.only ho2 HTT.out.1)
  have K2 := Lib.hid (KA.out.only ho2 HTT.out.2.1)
  have R2 := Lib.hid (RA.out.only ho2 HTT.out.2.2)
  have T2 := Lib.hid (TA.out.only ho2 HTT.out.2.2)
  have O2 := Lib.hid ho2'
  have Q2 : Hid (∃ q : Nat, q ≤ 1 ∧ LogF1 w2 l (grow F W.heap.size) G (logAdd O (pointC pt)) ch (co + q) (nw + q)) := Lib.hid ⟨q + addCost O (pointC pt), by have := addCost_le O (pointC pt); rw [price_point] at this; omega, by
    have := hq2.mono (grow_two (show W.heap.size ≤ (W.drew).drew.heap.size from OA.out.size))
    simpa [Int.add_assoc] using this⟩
  clear HA KA RA TA OA QA hq hqL hq2 ho2 ho2' hs2 hd q
  have HA := Lib.hid H2.out
  have KA := Lib.hid K2.out
  have RA := Lib.hid R2.out
  have TA := Lib.hid T2.out
  have OA := Lib.hid O2.out
  have QA := Lib.hid Q2.out
  clear H2 K2 R2 T2 O2 Q2
  go_wp2_with fail
  have hd := (Below.refl (w2).heap.size (w2)).drew
  have hbT := HTT.out.1
  have hkT := HTT.out.2.1
  have T13 : ∀ x : OnW (grow F W.heap.size) (w2), x.w.cell? ⟨b, 13, none⟩ = some (pAt l) := fun x => (HA.out.only x.on hbT).cell (j := 13) rfl
  have CB : ∀ x : OnW (grow F W.heap.size) (w2), Blk x.w w.heap.size 119 _ := fun x => KA.out.only x.on hkT
  have b0 := fun x => (CB x).cell (j := 0) rfl
  have b1 := fun x => (CB x).cell (j := 1) rfl
  have b2 := fun x => (CB x).cell (j := 2) rfl
  have b3 := fun x => (CB x).cell (j := 3) rfl
  have b4 := fun x => (CB x).cell (j := 4) rfl
  have b5 := fun x => (CB x).cell (j := 5) rfl
  have b6 := fun x => (CB x).cell (j := 6) rfl
  have b7 := fun x => (CB x).cell (j := 7) rfl
  have b8 := fun x => (CB x).cell (j := 8) rfl
  clear CB hbT hkT
  refine wp_region_mixO (grow F W.heap.size) 6 (.one [0, 1, 2, 3, 4] 5 (.done [])) (by kernel_rfl) (fun c d v a w h => by cases d <;> exact h) (by kernel_rfl) ?_
  simp only [wpMixT, pk_nil, pk_cons, pushAt_zero, pushAt_succ, List.drop_succ_cons, List.drop_zero]
  repeat (go_big_quiet_step (fail))
  refine wpQuiet_nil ?_
  clear T13 b0 b1 b2 b3 b4 b5 b6 b7 b8
  go_wp2_with fail
  obtain ⟨q, hq, hqL⟩ := QA.out
  refine (laddF (hqL.up hd) (by have := BD.out; have := logAdd_len O (pointC pt); omega) NL.out.2.2.2.2.2.1 (TA.out.up hd) (RA.out.up hd) (by have := BD.out; omega) (by skip; have := BD.out; omega) (by have := BD.out; omega) (by have := BD.out; omega)).mono ?_
  rintro r w3 ⟨rfl, hq2, ho2⟩
  have hs2 := ho2.size
  have ho2 : Only (grow F W.heap.size) (w2) w3 := ((Only.refl _ (w2)).drew).trans ho2
  go_wp2_with fail
  refine thenQ_normal ⟨⟨⟨_, ho2⟩, rfl⟩, ?_⟩
  refine wpQuiet_nil ?_
  go_wp2_with fail
  go_end0
  have hsW : w.heap.size < W.heap.size := S1.out.1
  have hOO : Only (fun k => k = b ∨ F k) w w3 := (O1.out.mono (fun k hk => .inl hk)).then (OA.out.trans ho2) (fun k hk hlt => hk.elim .inr (fun e => by omega))
  refine ⟨rfl, hOO, HA.out.only ho2 HTT.out.1, q + addCost (logAdd O (pointC pt)) ⟨ck, ca, cb, cid, cnm, ctx, cvk, cvn, chd⟩, ?_, ?_⟩
  · have := addCost_le (logAdd O (pointC pt)) ⟨ck, ca, cb, cid, cnm, ctx, cvk, cvn, chd⟩; omega
  · have := (hq2.mono (grow_two (show W.heap.size ≤ (w2).drew.heap.size from OA.out.size))).mono (grow_mono (F' := F) (m := w.heap.size) (fun k hk => hk) (by omega))
    simpa [Int.add_assoc] using this
theorem LogF1.bound (h : LogF1 w l F G O ch co nw) : LogF1 w l (fun k => F k ∧ k < w.heap.size) G O ch co nw := by
  obtain ⟨gv, ov, vs, hx, hf⟩ := h; exact ⟨gv, ov, vs, hx, fun k hk => ⟨hf k hk, hx.foot_lt hk⟩⟩
theorem gnote {N : Nat} {c : Chg} (hT : Tabs N w) (hR : Rules N w) (h : BufB w b S) (hlg : S.logs = true) (hpt : 1 ≤ S.pt ∧ S.pt ≤ 1000000000) (hNF : ∀ k, F k → N ≤ k) (hNb : N ≤ b) (hbF : ¬ F b)
    (hL : LogF1 w S.l F G O ch co nw) (hok : ChgOk c) (hOl : O.length ≤ 999990) (h0 : 0 ≤ nw) (h1 : nw + priceC c + 2 ≤ 1048576) (h2 : 0 ≤ co) (h3 : co ≤ 90000000) :
    Calls Tryz.prog 152 #[pAt b, chgV c] w (NoteP w b S F G (noteO S O c) ch co nw (priceC c + 2)) := by
  have hL' := hL.bound
  have key : Calls Tryz.prog 152 #[pAt b, chgV c] w (NoteP w b S (fun k => F k ∧ k < w.heap.size) G (noteO S O c) ch co nw (priceC c + 2)) := by
    unfold noteO
    cases he : S.empty with
    | false => simpa using gnote_open hT hR h hlg he hpt (fun k hk => hNF k hk.1) hNb (fun hk => hbF hk.1) (fun k hk => hk.2) hL' hok hOl h0 h1 h2 h3
    | true =>
      by_cases ht : S.tick = S.clean
      · simpa [ht] using gnote_first hT hR h hlg he ht hpt (fun k hk => hNF k hk.1) hNb (fun hk => hbF hk.1) (fun k hk => hk.2) hL' hok hOl h0 h1 h2 h3
      · simpa [ht] using gnote_more hT hR h hlg he ht hpt (fun k hk => hNF k hk.1) hNb (fun hk => hbF hk.1) (fun k hk => hk.2) hL' hok hOl h0 h1 h2 h3
  refine key.mono ?_
  rintro e w' ⟨he, ho, hk, q, hq, hq2⟩
  exact ⟨he, ho.mono (fun k hk => hk.elim .inl (fun h => .inr h.1)), hk, q, hq, hq2.mono (grow_mono (fun k hk => hk.1) (Nat.le_refl _))⟩
end
end Go.Proofs.YtnbccoelbfgmgaaGreatDoor
/- package buffer: a buffer without marks, properties and overlays; put, any text. -/
namespace Go.Proofs.YtnbccoelbfgmgaaGreatDoor
open Go.RowKit Go.Lib
set_option linter.unusedVariables false
set_option linter.unusedSimpArgs false
/-- A text whose blocks lie in F. -/
def GapF1 (w : World) (t : Nat) (F : Nat → Prop) (cs : List Nat) : Prop := ∃ g fv B st en, GapX w t g fv B st en cs ∧ ∀ k, gapFoot t g fv k → F k
section
variable {w w' : World} {t : Nat} {F F' : Nat → Prop} {cs : List Nat}
theorem GapF1.up (h : GapF1 w t F cs) (hb : Below w.heap.size w w') : GapF1 w' t F cs := by
  obtain ⟨g, fv, B, st, en, hx, hf⟩ := h; exact ⟨g, fv, B, st, en, hx.up hb, hf⟩
theorem GapF1.mono (h : GapF1 w t F cs) (hF : ∀ k, F k → F' k) : GapF1 w t F' cs := by
  obtain ⟨g, fv, B, st, en, hx, hf⟩ := h; exact ⟨g, fv, B, st, en, hx, fun k hk => hF k (hf k hk)⟩
theorem GapF1.only {S : Nat → Prop} (h : GapF1 w t F cs) (ho : Only S w w') (hd : ∀ k, F k → k < w.heap.size → ¬ S k) : GapF1 w' t F cs := by
  obtain ⟨g, fv, B, st, en, hx, hf⟩ := h; exact ⟨g, fv, B, st, en, hx.only ho (fun k hk => hd k (hf k hk) (hx.foot_lt hk)), hf⟩
theorem GapF1.bound (h : GapF1 w t F cs) : GapF1 w t (fun k => F k ∧ k < w.heap.size) cs := by
  obtain ⟨g, fv, B, st, en, hx, hf⟩ := h; exact ⟨g, fv, B, st, en, hx, fun k hk => ⟨hf k hk, hx.foot_lt hk⟩⟩
theorem GapF1.r (h : GapF1 w t F cs) : ∃ g, GapR w t g cs := by
  obtain ⟨g, fv, B, st, en, hx, hf⟩ := h; exact ⟨g, hx.r⟩
theorem GapF1.le (h : GapF1 w t F cs) : cs.length ≤ 65536 := by
  obtain ⟨g, fv, B, st, en, hx, hf⟩ := h; exact hx.le
theorem GapF1.cn (h : GapF1 w t F cs) : ∀ c ∈ cs, isN c := by
  obtain ⟨g, fv, B, st, en, hx, hf⟩ := h; exact hx.cn
theorem GapF1.lt (h : GapF1 w t F cs) : t < w.heap.size ∧ F t := by
  obtain ⟨g, fv, B, st, en, hx, hf⟩ := h; exact ⟨hx.gw.ltT, hf t (.inl rfl)⟩
theorem GapTo.f {g : Nat} {fv : Value} (h : GapTo w t g fv cs w') (hf : ∀ k, gapFoot t g fv k → F k) : GapF1 w' t (grow F w.heap.size) cs ∧ Only F w w' := by
  obtain ⟨ho, g', fv', B', st', en', hx, hf'⟩ := h
  exact ⟨⟨g', fv', B', st', en', hx, fun k hk => (hf' k hk).elim (fun e => .inl (hf k e)) .inr⟩, ho.mono hf⟩
theorem ginsertF {N : Nat} (hT : Tabs N w) (h : GapF1 w t F cs) (hNf : ∀ k, F k → N ≤ k) (s : ByteArray) (hs : s.size ≤ 262144) (hv : (charsD s.data.toList).isSome = true) (p : Nat) (hp1 : 1 ≤ p) (hp2 : p ≤ cs.length + 1) (hfit : cs.length + (chrs s).length ≤ 65536) :
    Calls Tryz.prog 124 #[.pointer (some ⟨t, 0, none⟩), .int .i64 p, .string s] w fun e w' => e = .returned (.int .i64 0) ∧ GapF1 w' t (grow F w.heap.size) (insC cs p (chrs s)) ∧ Only F w w' := by
  obtain ⟨g, fv, B, st, en, hx, hf⟩ := h
  exact (ginsert_ok hT hx (fun k hk => hNf k (hf k hk)) s hs hv p hp1 hp2 hfit).mono fun e w' ⟨he, ht⟩ => ⟨he, ht.f hf⟩
end
theorem Mk0.only {w w' : World} {m mm : Nat} {S : Nat → Prop} (h : Mk0 w m mm) (ho : Only S w w') (h1 : ¬ S m) (h2 : ¬ S mm) : Mk0 w' m mm := ⟨h.blk.only ho h1, by
  obtain ⟨L, c, q, e⟩ := h.im
  exact ⟨L, c, ⟨(ho.block mm (Array.getElem?_eq_some_iff.1 q.block).1 h2).trans q.block, q.keys, q.borns, q.old⟩, e⟩⟩
theorem Mk0.lt {w : World} {m mm : Nat} (h : Mk0 w m mm) : m < w.heap.size ∧ mm < w.heap.size := ⟨h.blk.lt, h.im.lt⟩
/-- What is noted of a text in a buffer. -/
structure LgS where
  G : List (List Chg)
  O : List Chg
  ch : Int
  co : Int
  nw : Int
/-- A buffer without marks, properties, overlays and excursions. Fg, Fl: where its text's and its log's blocks lie. -/
structure PlainX (w : World) (b : Nat) (Fg Fl : Nat → Prop) (mm : Nat) (pr ev : Int) (S : BS) (cs : List Nat) (L : LgS) : Prop where
  blk : BufB w b S
  gap : GapF1 w S.t Fg cs
  log : LogF1 w S.l Fl L.G L.O L.ch L.co L.nw
  mks : Mk0 w S.m mm
  prs : Blk w S.p 183 prC
  ovs : Blk w S.o 186 (ovC pr ev)
  sv : S.saved = .slice none 0 0
  fgl : ∀ k, Fg k → ¬ Fl k
  fg : ¬ Fg b ∧ ¬ Fg S.m ∧ ¬ Fg mm ∧ ¬ Fg S.p ∧ ¬ Fg S.o
  fl : ¬ Fl b ∧ ¬ Fl S.m ∧ ¬ Fl mm ∧ ¬ Fl S.p ∧ ¬ Fl S.o
  ne : b ≠ S.m ∧ b ≠ mm ∧ b ≠ S.p ∧ b ≠ S.o ∧ S.p ≠ S.m ∧ S.p ≠ mm ∧ S.p ≠ S.o ∧ S.o ≠ S.m ∧ S.o ≠ mm
  bg : ∀ k, Fg k → k < w.heap.size
  bl : ∀ k, Fl k → k < w.heap.size
/-- All blocks of such a buffer. -/
def plFoot (b : Nat) (Fg Fl : Nat → Prop) (mm : Nat) (S : BS) : Nat → Prop := fun k => k = b ∨ Fg k ∨ Fl k ∨ k = S.m ∨ k = mm ∨ k = S.p ∨ k = S.o
section
variable {w w' : World} {b mm : Nat} {Fg Fl : Nat → Prop} {pr ev : Int} {S S' : BS} {cs : List Nat} {L : LgS}
theorem PlainX.up (h : PlainX w b Fg Fl mm pr ev S cs L) (hb : Below w.heap.size w w') : PlainX w' b Fg Fl mm pr ev S cs L :=
  ⟨h.blk.up hb, h.gap.up hb, h.log.up hb, h.mks.up hb, h.prs.up hb, h.ovs.up hb, h.sv, h.fgl, h.fg, h.fl, h.ne, fun k hk => Nat.lt_of_lt_of_le (h.bg k hk) hb.size, fun k hk => Nat.lt_of_lt_of_le (h.bl k hk) hb.size⟩
theorem PlainX.only {Z : Nat → Prop} (h : PlainX w b Fg Fl mm pr ev S cs L) (ho : Only Z w w') (hd : ∀ k, plFoot b Fg Fl mm S k → ¬ Z k) : PlainX w' b Fg Fl mm pr ev S cs L :=
  ⟨h.blk.only ho (hd b (.inl rfl)), h.gap.only ho (fun k hk _ => hd k (.inr (.inl hk))), h.log.only ho (fun k hk _ => hd k (.inr (.inr (.inl hk)))), h.mks.only ho (hd _ (.inr (.inr (.inr (.inl rfl))))) (hd _ (.inr (.inr (.inr (.inr (.inl rfl)))))),
    h.prs.only ho (hd _ (.inr (.inr (.inr (.inr (.inr (.inl rfl))))))), h.ovs.only ho (hd _ (.inr (.inr (.inr (.inr (.inr (.inr rfl))))))), h.sv, h.fgl, h.fg, h.fl, h.ne, fun k hk => Nat.lt_of_lt_of_le (h.bg k hk) ho.size, fun k hk => Nat.lt_of_lt_of_le (h.bl k hk) ho.size⟩
theorem PlainX.foot_lt (h : PlainX w b Fg Fl mm pr ev S cs L) {k : Nat} (hk : plFoot b Fg Fl mm S k) : k < w.heap.size := by
  rcases hk with rfl | hk | hk | rfl | rfl | rfl | rfl
  · exact h.blk.lt
  · exact h.bg k hk
  · exact h.bl k hk
  · exact h.mks.lt.1
  · exact h.mks.lt.2
  · exact h.prs.lt
  · exact h.ovs.lt
/-- The blocks that an edit turns. -/
def edFoot (b : Nat) (Fg Fl : Nat → Prop) (S : BS) : Nat → Prop := fun k => k = b ∨ Fg k ∨ Fl k ∨ k = S.p ∨ k = S.o
/-- What an edit makes of such a buffer. -/
def PlainTo (w : World) (b : Nat) (Fg Fl : Nat → Prop) (mm : Nat) (pr ev : Int) (S S' : BS) (cs : List Nat) (L : LgS) (w' : World) : Prop :=
  Only (edFoot b Fg Fl S) w w' ∧ ∃ Fg' Fl', PlainX w' b Fg' Fl' mm pr ev S' cs L ∧ (∀ k, Fg' k → grow Fg w.heap.size k) ∧ (∀ k, Fl' k → grow Fl w.heap.size k)
/-- The change of an insertion. -/
abbrev insChg (p n : Nat) : Chg := ⟨1, p, ((p + n : Nat) : Int), 0, 0, ⟨#[]⟩, 0, 0, false⟩
theorem insChg_ok {p n : Nat} (h1 : 1 ≤ p) (h2 : p + n ≤ 1000000) : ChgOk (insChg p n) := ⟨by simp, fun _ => ⟨by simp; omega, by simp; omega⟩, fun _ => ⟨by simp; omega, by simp; omega⟩, by simp, by simp⟩
theorem price_ins (p n : Nat) : priceC (insChg p n) = 1 := rfl
/-- Room in a log for d more. -/
structure Room (L : LgS) (d : Nat) : Prop where
  o : L.O.length + d ≤ 999990
  n0 : 0 ≤ L.nw
  n1 : L.nw + d ≤ 1048570
  c0 : 0 ≤ L.co
  c1 : L.co + d ≤ 1048570
end
end Go.Proofs.YtnbccoelbfgmgaaGreatDoor
