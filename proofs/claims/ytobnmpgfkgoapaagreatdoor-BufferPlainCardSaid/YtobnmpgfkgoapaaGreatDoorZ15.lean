import Derived.Test.YtobnmpgfkgoapaaGreatDoorZ14
/- package buffer: Boundary and Undo at a plain buffer. -/
namespace Go.Proofs.YtobnmpgfkgoapaaGreatDoor
open Go.RowKit Go.Lib
set_option linter.unusedVariables false
set_option linter.unusedSimpArgs false
theorem logShut_len (G : List (List Chg)) (O : List Chg) : (logShut G O).length ≤ G.length + 1 := by unfold logShut; split <;> simp
/-- Behind Boundary. -/
def shutT (T : Tx) : Tx := { T with S := { T.S with empty := true }, G := logShut T.G T.O, O := [] }
section
variable {N : Nat} {w w' : World} {b mm : Nat} {F F' Fg Fl : Nat → Prop} {pr ev : Int} {T T' : Tx} {co nw co' nw' : Int} {B B' : Nat}
theorem plog_bound (h : PB N w b F T B) (hB : B ≤ 900000) : Calls Tryz.prog 61 #[pAt T.S.l] w fun r w' => r = .returned (.int .i64 0) ∧ Only F w w' ∧ PB N w' b (grow F w.heap.size) { T with G := logShut T.G T.O, O := [] } (B + 1) := by
  have htk := h.tick
  obtain ⟨Fl, co, nw, hl, hF, hNl, e1, e2, e3, e4, e5, e6, e7, hback⟩ := h.log
  refine (lboundF hl (by omega) (by omega) e7).mono ?_
  rintro r w' ⟨rfl, hl', ho⟩
  have hll := logShut_len T.G T.O
  obtain ⟨o1, p1⟩ := hback w' _ _ [] _ _ 0 (B + 1) w'.heap.size ho ho.size (Nat.le_refl _) hl'.bound (fun k hk => hk) (by simp) (by omega) (by omega) (by omega) e5 (by omega) (fun _ => rfl) (by omega)
  exact ⟨rfl, o1, p1.mono (fun k hk => hk.1) (Nat.le_refl _)⟩
theorem PB.setEmpty (h : PB N w b F T B) (v : Bool) : Only F w (w.setCell ⟨b, 15, none⟩ (.bool v)) ∧ PB N (w.setCell ⟨b, 15, none⟩ (.bool v)) b F { T with S := { T.S with empty := v } } B := by
  have hs := h.sane
  exact h.turn ((Only.refl (fun k => k = b) w).setCell (p := ⟨b, 15, none⟩) rfl _) (h.blk.set (j := 15) (by simp) (.bool v)) ⟨rfl, rfl, rfl, rfl, rfl, rfl⟩ ⟨hs.l1, hs.lp, hs.ph, hs.hn, hs.ma⟩ h.tick h.logs
set_option maxHeartbeats 1000000 in
theorem bBoundary (h : PB N w b F T B) (hB : B ≤ 900000) : Calls Tryz.prog 23 #[pAt b] w fun r w' => r = .returned (.int .i64 0) ∧ Only F w w' ∧ PB N w' b (grow F w.heap.size) (shutT T) (B + 1) := by
  have c14 : w.cell? ⟨b, 14, none⟩ = some (.bool true) := by rw [← h.logs]; exact h.blk.cell (j := 14) rfl
  have c13 : w.cell? ⟨b, 13, none⟩ = some (pAt T.S.l) := h.blk.cell (j := 13) rfl
  have HN := Lib.hid (bnoneB h.blk)
  have HL := Lib.hid (plog_bound h hB)
  clear h hB
  generalize hl : T.S.l = l at *
  go_enter Tryz.func23, Tryz.ntmps23
  go_wp2_with fail
  refine HN.out.mono ?_
  rintro r w1 ⟨rfl, rfl⟩
  go_wp2_with fail
  refine HL.out.mono ?_
  rintro r w1 ⟨rfl, ho, hp⟩
  have q15 := hp.blk.cell (j := 15) rfl
  have f15 := hp.blk.fz 15
  have HP := Lib.hid hp
  have HO := Lib.hid ho
  clear hp ho
  go_wp2_with fail
  go_ret
  obtain ⟨o2, p2⟩ := HP.out.setEmpty true
  exact ⟨rfl, Only.grow HO.out o2, p2⟩
/-- What the log's Undo makes of a plain buffer. -/
def PUndo (N : Nat) (w : World) (b : Nat) (F : Nat → Prop) (T : Tx) (B : Nat) (c : Int) (r : Ending) (w' : World) : Prop :=
  Only F w w' ∧ ∃ n, w.heap.size ≤ n ∧ n ≤ w'.heap.size ∧
    ((c = 0 ∧ r = .returned (.tuple #[.slice none 0 0, .int .i64 13]) ∧ PB N w' b (fun k => grow F w.heap.size k ∧ k < n) { T with G := logShut T.G T.O, O := [], ch := 0 } (B + 1)) ∨
     ∃ (m : Nat) (g : List Chg) (v : Value), c = ((m + 1 : Nat) : Int) ∧ (logShut T.G T.O)[m]? = some g ∧ r = .returned (.tuple #[v, .int .i64 0]) ∧ PB N w' b (fun k => grow F w.heap.size k ∧ k < n) { T with G := logShut T.G T.O, O := [], ch := m } (B + 1) ∧ ROwn encCg 89 9 n w' v g.reverse)
theorem plog_undo (h : PB N w b F T B) (hB : B ≤ 900000) (hGG : ∀ g ∈ logShut T.G T.O, g.length ≤ 900002) (again : Bool) (hch : T.ch ≤ (logShut T.G T.O).length) :
    Calls Tryz.prog 59 #[pAt T.S.l, .bool again] w (PUndo N w b F T B (chainN again T.ch (logShut T.G T.O).length)) := by
  have htk := h.tick
  obtain ⟨Fl, co, nw, hl, hF, hNl, e1, e2, e3, e4, e5, e6, e7, hback⟩ := h.log
  have hll := logShut_len T.G T.O
  refine (lundo hl (by omega) (by omega) (by omega) e7 hGG again hch).mono ?_
  rintro r w' ⟨ho, n, hn1, hn2, ⟨hc, rfl, hl'⟩ | ⟨m, g, v, hc, hg, rfl, hl', hv⟩⟩
  · obtain ⟨o1, p1⟩ := hback w' _ _ [] _ _ 0 (B + 1) n ho hn1 hn2 hl' (fun k hk => hk) (by simp) (by omega) (by omega) (by omega) e5 (by omega) (fun _ => rfl) (by omega)
    exact ⟨o1, n, hn1, hn2, .inl ⟨hc, rfl, p1⟩⟩
  · obtain ⟨o1, p1⟩ := hback w' _ _ [] _ _ 0 (B + 1) n ho hn1 hn2 hl' (fun k hk => hk) (by simp) (by omega) (by omega) (by omega) e5 (by omega) (fun _ => rfl) (by omega)
    exact ⟨o1, n, hn1, hn2, .inr ⟨m, g, v, hc, hg, rfl, p1, hv⟩⟩
set_option maxHeartbeats 1000000 in
theorem open_ok {S : BS} (h : BufB w b S) (hro : S.ro = false) : Calls Tryz.prog 58 #[pAt b] w fun r w' => r = .returned (.int .i64 0) ∧ w = w' := by
  have c5 : w.cell? ⟨b, 5, none⟩ = some (.bool false) := by rw [← hro]; exact h.cell (j := 5) rfl
  clear h hro
  go_enter Tryz.func58, Tryz.ntmps58
  go_wp2_with fail
  go_ret
  exact ⟨rfl, rfl⟩
abbrev openC (b : Nat) : Chk := ⟨58, #[pAt b], #[], 0⟩
theorem ChkAt.open {S : BS} (h : BufB w b S) (hro : S.ro = false) : ChkAt w True (openC b) := ⟨enters_mk Tryz.func58 (by kernel_rfl) rfl, fun _ w1 hb => (open_ok (h.up hb) hro).mono fun _ _ ⟨h1, h2⟩ => ⟨h1, h2 ▸ Below.refl _ _⟩⟩
set_option maxHeartbeats 1000000 in
theorem undo1_ok {S : BS} {k0 : Nat} (h : BufB w b S) (hlg : S.logs = true) (h0 : w.cell? ⟨k0, 0, none⟩ = some (pAt b)) : Calls Tryz.prog 57 #[pAt k0] w fun r w' => r = .returned (.bool true) ∧ Below w.heap.size w w' := by
  have c14 : w.cell? ⟨b, 14, none⟩ = some (.bool true) := by rw [← hlg]; exact h.cell (j := 14) rfl
  clear h hlg
  go_enter Tryz.func57, Tryz.ntmps57
  go_wp2_with fail
  go_ret
  exact ⟨rfl, Below.refl _ _⟩
/-- The changes undone one by one. -/
def revsT (T : Tx) (L : List Chg) : Tx := L.foldl revT T
def revsC (L : List Chg) : Nat := (L.map revC).sum
/-- Each can be undone when its turn comes. -/
def RevsOk : Tx → List Chg → Prop
  | _, [] => True
  | T, c :: L => RevOk T c ∧ RevsOk (revT T c) L
theorem revsT_snoc (T : Tx) (L : List Chg) (c : Chg) : revsT T (L ++ [c]) = revT (revsT T L) c := by unfold revsT; rw [List.foldl_append]; rfl
theorem RevsOk.at_ : ∀ {T : Tx} {L : List Chg} {i : Nat} {c : Chg}, RevsOk T L → L[i]? = some c → RevOk (revsT T (L.take i)) c
  | T, [], i, c, _, h => by simp at h
  | T, d :: L, 0, c, hr, h => by simp at h; subst h; exact hr.1
  | T, d :: L, i + 1, c, hr, h => by
    have := RevsOk.at_ (T := revT T d) (L := L) (i := i) hr.2 (by simpa using h)
    rw [List.take_succ_cons]
    exact this
theorem revsC_snoc (L : List Chg) (c : Chg) : revsC (L ++ [c]) = revsC L + revC c := by unfold revsC; simp
theorem revsC_take : ∀ (L : List Chg) (i : Nat), revsC (L.take i) ≤ revsC L
  | [], i => by simp [revsC]
  | c :: L, 0 => by simp [revsC]
  | c :: L, i + 1 => by
    have := revsC_take L i
    simp only [revsC, List.take_succ_cons, List.map_cons, List.sum_cons] at *
    omega
theorem take_snoc {L : List Chg} {i : Nat} {c : Chg} (h : L[i]? = some c) : L.take (i + 1) = L.take i ++ [c] := by
  rw [List.take_add_one, h]; rfl
/-- What the buffer's Undo makes of a plain buffer. d: what the changes cost. -/
def BUndo (N : Nat) (w : World) (b : Nat) (F : Nat → Prop) (T : Tx) (B d : Nat) (c : Int) (r : Ending) (w' : World) : Prop :=
  Only F w w' ∧ ((c = 0 ∧ r = .returned (.int .i64 13) ∧ PB N w' b (grow F w.heap.size) { shutT T with ch := 0 } (B + 1)) ∨
    ∃ (m : Nat) (g : List Chg), c = ((m + 1 : Nat) : Int) ∧ (logShut T.G T.O)[m]? = some g ∧ r = .returned (.int .i64 0) ∧
      PB N w' b (grow F w.heap.size) (shutT (revsT { shutT T with ch := m } g.reverse)) (B + d + 2))
set_option maxRecDepth 100000 in
set_option maxHeartbeats 4000000 in
theorem bUndo (hT : Tabs N w) (hR : Rules N w) (h : PB N w b F T B) (hF : edF N F) {d : Nat} (hB : B + d ≤ 890000) (hGG : ∀ g ∈ logShut T.G T.O, g.length ≤ 900000) (again : Bool) (hch : T.ch ≤ (logShut T.G T.O).length) (hro : T.S.ro = false)
    (hrev : ∀ m g, chainN again T.ch (logShut T.G T.O).length = ((m + 1 : Nat) : Int) → (logShut T.G T.O)[m]? = some g → RevsOk { shutT T with ch := m } g.reverse ∧ revsC g.reverse ≤ d) :
    Calls Tryz.prog 17 #[pAt b, .bool again] w (BUndo N w b F T B d (chainN again T.ch (logShut T.G T.O).length)) := by
  have hb := below1 w (.cells #[pAt b] 25)
  have hk := Blk.made w 25 #[pAt b]
  have hz : (w.alloc (.cells #[pAt b] 25)).heap.size = w.heap.size + 1 := by simp
  have HB := Lib.hid hb
  have HK := Lib.hid hk
  have H := Lib.hid (h.bound.up hb)
  have HT := Lib.hid (hT.up hb)
  have HR := Lib.hid (hR.up hb)
  have HZ := Lib.hid hz
  have HH := Lib.hid (⟨hB, hGG, hch, hro, hF, hrev⟩ : _ ∧ _ ∧ _ ∧ _ ∧ _ ∧ _)
  obtain ⟨c, hc⟩ : ∃ c, c = chainN again T.ch (logShut T.G T.O).length := ⟨_, rfl⟩
  rw [← hc]
  have HC := Lib.hid hc
  clear hT hR h hb hk hz hB hGG hch hro hF hrev hc
  go_enter Tryz.func17, Tryz.ntmps17
  go_wp2_with fail
  generalize w.alloc (.cells #[pAt b] 25) = W at *
  have X0 : ∀ X : UpW W.heap.size W, X.w.cell? ⟨w.heap.size, 0, none⟩ = some (pAt b) := fun X => (HK.out.up X.up).cell (j := 0) rfl
  refine wp_region_mixF W.heap.size 9 [([0, 1, 2, 4, 5], 3), ([], 6), ([], 7)] [8] (by kernel_rfl) (fun c d v a w h => by cases d <;> exact h) (by kernel_rfl) ?_
  simp only [wpMix, pk_nil, pk_cons, pushAt_zero, pushAt_succ, List.drop_succ_cons, List.drop_zero]
  repeat (go_big_quiet_step (fail))
  refine wpQuiet_nil ?_
  clear X0
  go_wp2_with fail
  refine (unless_ok 9 57 #[] #[pAt w.heap.size] W.drew).mono ?_
  rintro r w1 ⟨rfl, hb1, he, hf⟩
  have hb1' : Below W.heap.size W w1 := ((Below.refl _ W).drew).trans hb1
  have C1 := Lib.hid (ChkAt.unless (P := True) (p := true) (enters_mk Tryz.func57 (by kernel_rfl) rfl) he hf (fun _ w2 hb2 => undo1_ok ((H.out.up hb1').up hb2).blk H.out.logs (((HK.out.up hb1').up hb2).cell (j := 0) rfl)))
  have M1 := Lib.hid (ChkAt.made (H.out.up hb1').blk)
  have O1 := Lib.hid (ChkAt.open (H.out.up hb1').blk HH.out.2.2.2.1)
  have B1 := Lib.hid hb1'
  clear hb1 he hf
  go_wp2_with fail
  refine thenQ_normal ⟨⟨⟨_, B1.out⟩, rfl⟩, ?_⟩
  refine wpQuiet_nil ?_
  go_wp2_with fail
  have hb2 := below1 w1 (.cells #[(madeC b).val, (unlC W.heap.size (W.heap.size + 1) 0).val, (openC b).val] 48)
  have B2 := Lib.hid (B1.out.trans (hb2.mono B1.out.size))
  refine thenQ_normal ⟨⟨⟨_, B2.out⟩, rfl⟩, ?_⟩
  refine wpQuiet_nil ?_
  have hR3 := RSl.arr (enc := encK) (zs := [madeC b, unlC W.heap.size (W.heap.size + 1) 0, openC b]) (MapKept.heap_alloc w1 (.cells #[(madeC b).val, (unlC W.heap.size (W.heap.size + 1) 0).val, (openC b).val] 48)).1 rfl
  have HF := first_any hR3 3 (by simp) (by
    intro c hc
    simp only [List.mem_cons, List.not_mem_nil, or_false] at hc
    rcases hc with rfl | rfl | rfl
    · exact M1.out.en
    · exact C1.out.en
    · exact O1.out.en) (by
    intro i c w4 hi hz hb
    rcases i with _ | _ | _ | i
    · cases hi; exact M1.out.run trivial w4 (up2 hb2 hb)
    · cases hi; exact C1.out.run trivial w4 (up2 hb2 hb)
    · cases hi; exact O1.out.run trivial w4 (up2 hb2 hb)
    · simp at hi)
  have HF := Lib.hid HF
  clear hR3 hb2 hb1'
  go_wp2_with fail
  refine HF.out.mono ?_
  rintro e w3 ⟨rfl, hb3⟩
  simp only [firstE, if_true]
  go_wp2_with fail
  have B3 := Lib.hid (B2.out.trans (hb3.mono B2.out.size))
  refine thenQ_normal ⟨⟨⟨_, B3.out⟩, rfl⟩, ?_⟩
  repeat (go_big_quiet_step (fail))
  refine wpQuiet_nil ?_
  clear hb3 HF M1 C1 O1 B1 B2
  have P3 := Lib.hid (H.out.up B3.out)
  have K3 := Lib.hid (HK.out.up B3.out)
  have T3 := Lib.hid (HT.out.up B3.out)
  have R3 := Lib.hid (HR.out.up B3.out)
  have q13 : w3.cell? ⟨b, 13, none⟩ = some (pAt T.S.l) := P3.out.blk.cell (j := 13) rfl
  have k0 := K3.out.cell (j := 0) rfl
  go_wp2_with fail
  have hN3 : N ≤ w3.heap.size := P3.out.nN
  have z3 := B3.out.size
  have hZ : w.heap.size + 1 ≤ W.heap.size := by have := HZ.out; omega
  refine (plog_undo P3.out (by have := HH.out.1; omega) (fun g hg => by have := HH.out.2.1 g hg; omega) again HH.out.2.2.1).mono ?_
  rintro r w4 ⟨ho4, n, hn1, hn2, ⟨hc, rfl, hp4⟩ | ⟨m, g, v, hc, hg, rfl, hp4, hv⟩⟩
  · have hk4 := K3.out.only ho4 (fun e => by have := e.2; omega)
    have q15 := hp4.blk.cell (j := 15) rfl
    have f15 := hp4.blk.fz 15
    have k4 := hk4.cell (j := 0) rfl
    have P4 := Lib.hid hp4
    have O4 := Lib.hid ho4
    have HCC := Lib.hid (HC.out.trans hc)
    clear hp4 ho4 hk4 k0 q13 hc
    go_wp2_with fail
    go_ret
    obtain ⟨o5, p5⟩ := P4.out.setEmpty true
    refine ⟨?_, .inl ⟨HCC.out, rfl, p5.mono (fun k hk => hk.1.elim (fun e => .inl e.1) (fun e => .inr (by omega))) (Nat.le_refl _)⟩⟩
    exact (((Only.of_below HB.out).trans (Only.of_below B3.out)).trans (O4.out.mono (fun k hk => hk.1))).then o5 (fun k hk hlt => hk.1.elim (fun e => e.1) (fun e => by omega))
  · obtain ⟨L, hL⟩ : ∃ L, L = g.reverse := ⟨_, rfl⟩
    rw [← hL] at hv
    have hgl := HH.out.2.1 g (List.mem_of_getElem? hg)
    have hLl : L.length ≤ 900000 := by rw [hL]; simpa using hgl
    obtain ⟨hrok, hrd⟩ := HH.out.2.2.2.2.2 m g hc hg
    rw [← hL] at hrok hrd
    have hvb : ∀ k, v.ownBlock = some k → n ≤ k ∧ k < w4.heap.size := fun k hk => ⟨hv.base hk, hv.lt hk⟩
    have hk4 := K3.out.only ho4 (fun e => by have := e.2; omega)
    have q15 := hp4.blk.cell (j := 15) rfl
    have f15 := hp4.blk.fz 15
    have k4 := hk4.cell (j := 0) rfl
    obtain ⟨A, cap, rfl, hcp, hcm, _⟩ := hv.shape eltCg
    obtain ⟨o5, p5⟩ := hp4.setEmpty true
    have P5 := Lib.hid p5
    have O5 := Lib.hid ((((Only.of_below HB.out).trans (Only.of_below B3.out)).trans (ho4.mono (fun k hk => hk.1)) : Only F w w4).then o5 (fun k hk hlt => hk.1.elim (fun e => e.1) (fun e => by omega)))
    have K5 := Lib.hid (hk4.only o5 (fun e => e.1.elim (fun q => by have := q.2; omega) (fun q => by omega)))
    have V5 := Lib.hid (hv.kept (fun k hk => o5.block k (hvb k hk).2 (fun e => by have := (hvb k hk).1; have := e.2; omega)))
    have T5 := Lib.hid ((T3.out.only ho4 (fun k hk => HH.out.2.2.2.2.1 k hk.1)).only o5 (fun k hk => hk.1.elim (fun e => HH.out.2.2.2.2.1 k e.1) (fun e => by omega)))
    have R5 := Lib.hid ((R3.out.only ho4 (fun k hk => HH.out.2.2.2.2.1 k hk.1)).only o5 (fun k hk => hk.1.elim (fun e => HH.out.2.2.2.2.1 k e.1) (fun e => by omega)))
    have z5 : (w4.setCell ⟨b, 15, none⟩ (.bool true)).heap.size ≤ w4.heap.size := by simp
    have z6 : w4.heap.size ≤ (w4.setCell ⟨b, 15, none⟩ (.bool true)).heap.size := by simp
    have HVB := Lib.hid hvb
    have HG := Lib.hid (⟨hc, hg, hL, hrok, hrd⟩ : _ ∧ _ ∧ _ ∧ _ ∧ _)
    have hlo := ho4.size
    clear hp4 ho4 hk4 k0 q13 hc hg hL hrok hrd hvb hv p5 o5 hgl T3 R3 K3 P3
    go_wp2_with fail
    clear q15 f15 k4
    generalize w4.setCell ⟨b, 15, none⟩ (.bool true) = W5 at *
    obtain ⟨T0, hT0⟩ : ∃ T0 : Tx, T0 = { shutT T with ch := m } := ⟨_, rfl⟩
    have P5 : Hid (PB N W5 b (fun k => grow (fun k => F k ∧ k < w.heap.size) w3.heap.size k ∧ k < n) T0 (B + 1)) := by rw [hT0]; exact P5
    obtain ⟨F5, hF5⟩ : ∃ F5 : Nat → Prop, F5 = (fun k => grow (fun k => F k ∧ k < w.heap.size) w3.heap.size k ∧ k < n) := ⟨_, rfl⟩
    rw [← hF5] at P5
    have hF5' : ∀ k, F5 k → (F k ∧ k < w.heap.size) ∨ (w3.heap.size ≤ k ∧ k < n) := fun k hk => by rw [hF5] at hk; exact hk.1.elim .inl (fun e => .inr ⟨e, hk.2⟩)
    have hF6 : edF N (grow F5 W5.heap.size) := fun k hk => hk.elim (fun e => (hF5' k e).elim (fun q => HH.out.2.2.2.2.1 k q.1) (fun q => by omega)) (fun q => by omega)
    have HT0 := Lib.hid hT0
    have HF6 := Lib.hid (⟨hF5', hF6⟩ : _ ∧ _)
    clear hT0 hF5 hF5' hF6
    go_loopw [38] (fun va wr => ∃ i : Nat, i ≤ L.length ∧ va = .int .i64 i ∧ Only (grow F5 W5.heap.size) W5 wr ∧ PB N wr b (grow F5 W5.heap.size) (revsT T0 (L.take i)) (B + 1 + revsC (L.take i))) (fun va _ => int2 va (.int .i64 L.length))
    case atStart => exact ⟨0, Nat.zero_le _, rfl, Only.refl _ _, by simpa [revsT, revsC] using P5.out.mono (fun k hk => .inl hk) (Nat.le_refl _)⟩
    case round =>
      obtain ⟨i, hi, rfl, hor, hpr⟩ := hrel
      have zr := hor.size
      have hkr := K5.out.only hor (fun e => e.elim (fun q => (HF6.out.1 _ q).elim (fun q => by omega) (fun q => by omega)) (fun q => by omega))
      have hTr := T5.out.only hor HF6.out.2
      have hRr := R5.out.only hor HF6.out.2
      have hvr := V5.out.kept (fun k hk => hor.block k (by have := (HVB.out k hk).2; omega) (fun e => e.elim (fun q => (HF6.out.1 _ q).elim (fun q => by have := (HVB.out k hk).1; omega) (fun q => by have := (HVB.out k hk).1; omega)) (fun q => by have := (HVB.out k hk).2; omega)))
      have hlw : w.heap.size < wr.heap.size := by omega
      have hne : ¬ wr.heap.size = w.heap.size := by omega
      have kr : wr.cell? ⟨w.heap.size, 0, none⟩ = some (pAt b) := hkr.cell (j := 0) rfl
      have PR := Lib.hid hpr
      have OR := Lib.hid hor
      by_cases hlt : i < L.length
      · have d1 : decide ((i : Int) < L.length) = true := decide_eq_true (by omega)
        have d2 : ((i : Int) < L.length) = True := eq_true (by omega)
        have s1 : IntKind.i64.wrap ((i : Int) + 1) = ((i + 1 : Nat) : Int) := by rw [IntWalk.i64_in _ (by omega)]; omega
        obtain ⟨c, hx⟩ : ∃ c, L[i]? = some c := ⟨_, List.getElem?_eq_getElem hlt⟩
        have hrv : RevsOk T0 L := by rw [HT0.out]; exact HG.out.2.2.2.1
        have hok := hrv.at_ hx
        have hcst : B + 1 + revsC (L.take i) + revC c ≤ 900000 := by
          have h1 := revsC_take L (i + 1)
          rw [take_snoc hx, revsC_snoc] at h1
          have := HH.out.1; have := HG.out.2.2.2.2
          omega
        obtain ⟨gb, cap', e, hnc, hcm', hBg, hgl, hfz, hcell⟩ := hvr.lies eltCg (by omega)
        cases e
        have hcx := fun j u => hcell i c j u hx
        have HX := Lib.hid hx
        obtain ⟨xk, xa, xb, xid, xnm, xtx, xvk, xvn, xhd⟩ := c
        have x0 := hcx 0 _ rfl
        have x1 := hcx 1 _ rfl
        have x2 := hcx 2 _ rfl
        have x3 := hcx 3 _ rfl
        have x4 := hcx 4 _ rfl
        have x5 := hcx 5 _ rfl
        have x6 := hcx 6 _ rfl
        have x7 := hcx 7 _ rfl
        have x8 := hcx 8 _ rfl
        rw [Nat.add_zero] at x0
        have hb6 := below1 wr (.cells (chgA ⟨xk, xa, xb, xid, xnm, xtx, xvk, xvn, xhd⟩) 89)
        have HRV := Lib.hid (prevert (hTr.up hb6) (hRr.up hb6) (PR.out.up hb6) HF6.out.2 hcst hok)
        have B6 := Lib.hid hb6
        clear hcell hcx hfz hx hb6 hok hrv hTr hRr hvr hkr hor hpr
        go_wp2_with fail
        refine HRV.out.mono ?_
        rintro r w7 ⟨rfl, ho7, hp7⟩
        have O7 := Lib.hid (OR.out.trans ((Only.of_below B6.out).trans ho7))
        have P7 := Lib.hid hp7
        have z6 := B6.out.size
        clear ho7 hp7 HRV
        go_wp2_with fail
        go_roundw
        case rel =>
          refine ⟨i + 1, by omega, by first | rfl | go_num, O7.out, ?_⟩
          rw [take_snoc HX.out, revsT_snoc, revsC_snoc]
          exact P7.out.mono (grow_two (by omega)) (by omega)
        case measure => simp [int2]; omega
      · have d1 : decide ((i : Int) < L.length) = false := decide_eq_false (by omega)
        have d2 : ((i : Int) < L.length) = False := eq_false (by omega)
        obtain rfl : i = L.length := by omega
        rw [List.take_length] at hpr PR
        have hd := HG.out.2.2.2.2
        have hBB := HH.out.1
        have HB2 := Lib.hid (plog_bound PR.out (by omega))
        have q13 : wr.cell? ⟨b, 13, none⟩ = some (pAt (revsT T0 L).S.l) := PR.out.blk.cell (j := 13) rfl
        clear hTr hRr hvr hkr hor hpr
        generalize (revsT T0 L).S.l = l2 at *
        go_wp2_with fail
        refine HB2.out.mono ?_
        rintro r w7 ⟨rfl, ho7, hp7⟩
        have hk7 := (K5.out.only OR.out (fun e => e.elim (fun q => (HF6.out.1 _ q).elim (fun q => by omega) (fun q => by omega)) (fun q => by omega))).only ho7 (fun e => e.elim (fun q => (HF6.out.1 _ q).elim (fun q => by omega) (fun q => by omega)) (fun q => by omega))
        have k7 := hk7.cell (j := 0) rfl
        have q15 := hp7.blk.cell (j := 15) rfl
        have f15 := hp7.blk.fz 15
        have P7 := Lib.hid hp7
        have O7 := Lib.hid (OR.out.trans ho7)
        clear ho7 hp7 hk7 q13 kr HB2
        go_wp2_with fail
        go_ret
        obtain ⟨o8, p8⟩ := P7.out.setEmpty true
        have hsub : ∀ k, grow (grow F5 W5.heap.size) wr.heap.size k → F k ∧ k < w.heap.size ∨ w3.heap.size ≤ k := fun k hk => hk.elim (fun e => e.elim (fun q => (HF6.out.1 k q).elim .inl (fun q => .inr q.1)) (fun q => .inr (by omega))) (fun q => .inr (by omega))
        refine ⟨?_, .inr ⟨m, g, HC.out.trans HG.out.1, HG.out.2.1, rfl, ?_⟩⟩
        · refine (O5.out.then O7.out (fun k hk hlt => ?_)).then o8 (fun k hk hlt => ?_)
          · exact (hsub k (.inl hk)).elim (fun e => e.1) (fun e => by omega)
          · exact (hsub k hk).elim (fun e => e.1) (fun e => by omega)
        · rw [← HG.out.2.2.1]
          have p9 := p8.mono (F' := grow F w.heap.size) (B' := B + d + 2) (fun k hk => (hsub k hk).elim (fun e => .inl e.1) (fun e => .inr (by omega))) (by omega)
          rw [HT0.out] at p9
          exact p9
end
end Go.Proofs.YtobnmpgfkgoapaaGreatDoor
/- package buffer: Text, All, Size, Point, Reach, Char, Narrow, Widen at a plain buffer; Save and Restore, one excursion. -/
namespace Go.Proofs.YtobnmpgfkgoapaaGreatDoor
open Go.RowKit Go.Lib
set_option linter.unusedVariables false
set_option linter.unusedSimpArgs false
theorem subL_all (cs : List Nat) : subL cs 1 (cs.length + 1) = cs := by unfold subL; simp
/-- What Text answers. -/
def textV (T : Tx) (x y : Int) : ByteArray := if reachB T.S x y = true then encS (subL T.cs x.toNat y.toNat) else ⟨#[]⟩
section
variable {N : Nat} {w w' : World} {b mm : Nat} {F F' Fg Fl : Nat → Prop} {pr ev : Int} {T T' : Tx} {co nw co' nw' : Int} {B B' : Nat}
theorem PB.gap (h : PB N w b F T B) : ∃ g, GapR w T.S.t g T.cs := by obtain ⟨Fg, Fl, mm, pr, ev, co, nw, hx, hd⟩ := h; exact hx.gap.r
theorem PB.gap2 (h : PB N w b F T B) : ∃ g, GapR w T.S.t g T.cs ∧ b ≠ T.S.t ∧ b ≠ g := by
  obtain ⟨Fg, Fl, mm, pr, ev, co, nw, hx, hd⟩ := h
  obtain ⟨g', fv, Bf, st, en, hgx, hf⟩ := hx.gap
  exact ⟨g', hgx.r, fun e => hx.fg.1 (e ▸ hf _ (.inl rfl)), fun e => hx.fg.1 (e ▸ hf _ (.inr (.inl rfl)))⟩
set_option maxRecDepth 100000 in
set_option maxHeartbeats 2000000 in
theorem pText (h : PB N w b F T B) (x y : Int) : Calls Tryz.prog 11 #[pAt b, .int .i64 x, .int .i64 y] w fun r w' => r = .returned (.tuple #[.string (textV T x y), .int .i64 (delE T x y)]) ∧ Below w.heap.size w w' := by
  have HM := Lib.hid (ChkAt.made h.blk)
  have HV := Lib.hid (within_ok h.blk x y)
  obtain ⟨E, hE⟩ : ∃ E : Int, E = if reachB T.S x y = true then 0 else 3 := ⟨_, rfl⟩
  rw [← hE] at HV
  have hE' : delE T x y = E := hE.symm
  rw [hE']
  obtain ⟨V, hV⟩ : ∃ V, V = textV T x y := ⟨_, rfl⟩
  rw [← hV]
  have HS := Lib.hid h.sane
  have H := Lib.hid h
  have HE := Lib.hid hE
  have HVV := Lib.hid hV
  clear h hE hE' hV
  go_enter Tryz.func11, Tryz.ntmps11
  go_wp2_with fail
  refine HV.out.mono ?_
  rintro r w1 ⟨k1, k2, rfl, hb1, hc⟩
  have C1 := Lib.hid hc
  have B1 := Lib.hid hb1
  have M1 := Lib.hid (HM.out.up hb1)
  clear hc hb1 HV HM
  go_wp2_with fail
  have hb4 := below1 w1 (.cells #[(madeC b).val, (unlC k1 k2 E).val] 48)
  have hR3 := RSl.arr (enc := encK) (zs := [madeC b, unlC k1 k2 E]) (MapKept.heap_alloc w1 (.cells #[(madeC b).val, (unlC k1 k2 E).val] 48)).1 rfl
  have HF := first_any hR3 2 (by simp) (by
    intro c hc
    simp only [List.mem_cons, List.not_mem_nil, or_false] at hc
    rcases hc with rfl | rfl
    · exact M1.out.en
    · exact C1.out.en) (by
    intro i c w4 hi hz hb
    rcases i with _ | _ | i
    · cases hi; exact M1.out.run trivial w4 (up2 hb4 hb)
    · cases hi; exact C1.out.run trivial w4 (up2 hb4 hb)
    · simp at hi)
  have B2 := Lib.hid (up2 B1.out hb4)
  have hfe : firstE [madeC b, unlC k1 k2 E] = E := by rw [firstE2]; rfl
  rw [hfe] at HF
  have HF := Lib.hid HF
  clear hR3 hb4 M1 C1 B1 hfe
  refine HF.out.mono ?_
  rintro e w5 ⟨rfl, hb5⟩
  have B5 := Lib.hid (up2 B2.out hb5)
  clear hb5 B2 HF
  by_cases hq : reachB T.S x y = true
  · have hE := HE.out
    rw [if_pos hq] at hE
    have hv := HVV.out
    unfold textV at hv
    rw [if_pos hq] at hv
    have hq' := reach_iff.1 hq
    have g1 := HS.out.l1
    have g4 := HS.out.hn
    have P5 := Lib.hid (H.out.up B5.out)
    obtain ⟨g, hg⟩ := P5.out.gap
    obtain ⟨n, rfl⟩ : ∃ n : Nat, x = n := ⟨x.toNat, by omega⟩
    obtain ⟨m, rfl⟩ : ∃ m : Nat, y = m := ⟨y.toNat, by omega⟩
    simp only [Int.toNat_natCast] at hv
    have HSL := Lib.hid (gslice_ok hg n m (by omega) (by omega) (by omega))
    have q9 : w5.cell? ⟨b, 9, none⟩ = some (pAt T.S.t) := P5.out.blk.cell (j := 9) rfl
    rw [← hv] at HSL
    have HE0 := Lib.hid hE
    clear hq hq' g1 g4 hg hv
    rw [hE]
    clear hE
    generalize T.S.t = t at *
    go_wp2_with fail
    refine HSL.out.mono ?_
    rintro e w6 ⟨rfl, hb6⟩
    go_wp2_with fail
    go_ret2
    exact ⟨by rw [HE0.out]; rfl, up2 B5.out hb6⟩
  · have hE := HE.out
    rw [if_neg hq] at hE
    have hv := HVV.out
    unfold textV at hv
    rw [if_neg hq] at hv
    have HE0 := Lib.hid hE
    have HV0 := Lib.hid hv
    clear hq
    rw [hE]
    clear hE hv
    go_wp2_with fail
    go_ret2
    exact ⟨by rw [HE0.out, HV0.out]; rfl, B5.out⟩
theorem gAll {g t : Nat} {cs : List Nat} (h : GapR w t g cs) : Calls Tryz.prog 26 #[pAt t] w fun r w' => r = .returned (.string (encS cs)) ∧ Below w.heap.size w w' := by
  have hl := h.len
  have H := Lib.hid h
  have HS := Lib.hid (gsize h)
  have s1 : IntKind.i64.wrap ((cs.length : Int) + 1) = ((cs.length + 1 : Nat) : Int) := by rw [IntWalk.i64_in _ (by omega)]; omega
  clear h
  go_enter Tryz.func26, Tryz.ntmps26
  go_wp2_with fail
  refine HS.out.mono ?_
  rintro e w1 ⟨rfl, hb1⟩
  have HB := Lib.hid hb1
  have HSL := Lib.hid (gslice_ok (H.out.up hb1) 1 (cs.length + 1) (by omega) (by omega) (by omega))
  rw [subL_all] at HSL
  clear hb1
  go_wp2_with fail
  refine HSL.out.mono ?_
  rintro e w2 ⟨rfl, hb2⟩
  go_wp2_with fail
  go_ret
  exact ⟨rfl, up2 HB.out hb2⟩
theorem pAll (h : PB N w b F T B) : Calls Tryz.prog 9 #[pAt b] w fun r w' => r = .returned (.string (encS T.cs)) ∧ Below w.heap.size w w' := by
  obtain ⟨g, hg⟩ := h.gap
  have HN := Lib.hid (bnoneB h.blk)
  have q9 : w.cell? ⟨b, 9, none⟩ = some (pAt T.S.t) := h.blk.cell (j := 9) rfl
  have HA := Lib.hid (gAll hg)
  clear h hg
  generalize T.S.t = t at *
  go_enter Tryz.func9, Tryz.ntmps9
  go_wp2_with fail
  refine HN.out.mono ?_
  rintro e w1 ⟨rfl, rfl⟩
  go_wp2_with fail
  refine HA.out.mono ?_
  rintro e w1 ⟨rfl, hb⟩
  go_wp2_with fail
  go_ret
  exact ⟨rfl, hb⟩
theorem pNarrow (h : PB N w b F T B) (x y : Nat) (h1 : 1 ≤ x) (h2 : x ≤ y) (h3 : y ≤ T.cs.length + 1) : Calls Tryz.prog 18 #[pAt b, .int .i64 x, .int .i64 y] w fun r w' => r = .returned (.int .i64 0) ∧ Only F w w' ∧ PB N w' b F { T with S := { T.S with lo := x, hi := y, pt := min (max T.S.pt x) y } } B := by
  obtain ⟨g, hg, hbt, hbg⟩ := h.gap2
  have hs := h.sane
  refine (Narrow_ok ⟨h.blk, hg, hbt, hbg, hs.l1, hs.lp, hs.ph, hs.hn⟩ x y h1 h2 h3).mono ?_
  rintro r w' ⟨rfl, ho, hk⟩
  obtain ⟨o1, p1⟩ := h.turn ho hk.blk ⟨rfl, rfl, rfl, rfl, rfl, rfl⟩ ⟨hk.h1, hk.h2, hk.h3, hk.h4, hs.ma⟩ h.tick h.logs
  exact ⟨rfl, o1, p1⟩
set_option maxHeartbeats 1000000 in
theorem widenB {S : BS} {n : Nat} (h : BufB w b S) (hn : n ≤ 1000000) (hS : ∀ w1, Below w.heap.size w w1 → Calls Tryz.prog 31 #[pAt S.t] w1 fun r w2 => r = .returned (.int .i64 n) ∧ Below w1.heap.size w1 w2) :
    Calls Tryz.prog 19 #[pAt b] w fun r w' => r = .returned (.int .i64 0) ∧ ∃ w1, Below w.heap.size w w1 ∧ w' = (w1.setCell ⟨b, 1, none⟩ (.int .i64 1)).setCell ⟨b, 2, none⟩ (.int .i64 ((n + 1 : Nat) : Int)) := by
  have HN := Lib.hid (bnoneB h)
  have q9 : w.cell? ⟨b, 9, none⟩ = some (pAt S.t) := h.cell (j := 9) rfl
  have HS := Lib.hid (hS w (Below.refl _ _))
  have H := Lib.hid h
  have s1 : IntKind.i64.wrap ((n : Int) + 1) = ((n + 1 : Nat) : Int) := by rw [IntWalk.i64_in _ (by omega)]; omega
  clear h hS hn
  generalize S.t = t at *
  go_enter Tryz.func19, Tryz.ntmps19
  go_wp2_with fail
  refine HN.out.mono ?_
  rintro e w1 ⟨rfl, rfl⟩
  go_wp2_with fail
  refine HS.out.mono ?_
  rintro e w1 ⟨rfl, hb⟩
  have hk := H.out.up hb
  have q1 := hk.cell (j := 1) rfl
  have q2 := hk.cell (j := 2) rfl
  have f1 := hk.fz 1
  have f2 := hk.fz 2
  go_wp2_with fail
  go_ret
  exact ⟨rfl, w1, hb, by first | rfl | (simp only [Nat.cast_add, Nat.cast_one])⟩
theorem pWiden (h : PB N w b F T B) : Calls Tryz.prog 19 #[pAt b] w fun r w' => r = .returned (.int .i64 0) ∧ Only F w w' ∧ PB N w' b F { T with S := { T.S with lo := 1, hi := T.cs.length + 1 } } B := by
  have hs := h.sane
  have g1 := hs.l1; have g2 := hs.lp; have g3 := hs.ph; have g4 := hs.hn
  have hle := h.le
  refine (widenB h.blk (by omega) h.size).mono ?_
  rintro r w' ⟨rfl, w1, hb, rfl⟩
  have hh := h.up hb
  obtain ⟨o1, p1⟩ := hh.turn (S2 := { T.S with lo := 1, hi := T.cs.length + 1 }) (((Only.refl (fun k => k = b) w1).setCell (p := ⟨b, 1, none⟩) rfl (.int .i64 1)).setCell (p := ⟨b, 2, none⟩) rfl (.int .i64 ((T.cs.length + 1 : Nat) : Int)))
    ((hh.blk.set (j := 1) (by simp) (.int .i64 1)).set (j := 2) (by simp) (.int .i64 ((T.cs.length + 1 : Nat) : Int))) ⟨rfl, rfl, rfl, rfl, rfl, rfl⟩ ⟨by simp, by dsimp only; omega, by dsimp only; omega, by dsimp only; omega, hs.ma⟩ h.tick h.logs
  exact ⟨rfl, (Only.of_below hb).trans o1, p1⟩
end
end Go.Proofs.YtobnmpgfkgoapaaGreatDoor
/- package buffer: Save of a wide buffer without excursions, and Restore of that one. -/
namespace Go.Proofs.YtobnmpgfkgoapaaGreatDoor
open Go.RowKit Go.Lib
set_option linter.unusedVariables false
set_option linter.unusedSimpArgs false
/-- An excursion. -/
structure Exc where
  pt : Nat
  lo : Nat
  hi : Nat
  mark : Nat
  marked : Bool
  tok : Nat
  whole : Bool
abbrev encX (x : Exc) : List Value := [.int .i64 x.pt, .int .i64 x.lo, .int .i64 x.hi, .int .i64 x.mark, .bool x.marked, .int .i64 x.tok, .bool x.whole]
theorem eltX : Elt encX 68 93 7 56 (.agg #[.int .i64 0, .int .i64 0, .int .i64 0, .int .i64 0, .bool false, .int .i64 0, .bool false]) := ⟨Tryz.underlying68, by kernel_rfl, rfl, by omega, fun _ => rfl, fun x u hu => by simp at hu; rcases hu with rfl | rfl | rfl | rfl | rfl | rfl | rfl <;> rfl⟩
section
variable {w w' : World} {b n : Nat} {S : BS}
set_option maxRecDepth 100000 in
set_option maxHeartbeats 4000000 in
theorem saveB (h : BufB w b S) (hsv : S.saved = .slice none 0 0) (hlo : S.lo = 1) (hhi : S.hi = n + 1) (hn : n ≤ 1000000) (htk : S.tokens ≤ 1000000)
    (hS : ∀ w1, Below w.heap.size w w1 → Calls Tryz.prog 31 #[pAt S.t] w1 fun r w2 => r = .returned (.int .i64 n) ∧ Below w1.heap.size w1 w2) :
    Calls Tryz.prog 20 #[pAt b] w fun r w' => r = .returned (.tuple #[.int .i64 S.tokens, .int .i64 0]) ∧ Only (fun k => k = b) w w' ∧ ∃ g cap, 1 ≤ cap ∧ cap ≤ maxLen ∧ BufB w' b { S with saved := .slice (some ⟨g, 0, none⟩) 1 cap, tokens := S.tokens + 1 } ∧ g ≠ b ∧ RSl encX w' (some ⟨g, 0, none⟩) [⟨S.pt, 1, n + 1, S.mark, S.marked, S.tokens, true⟩] := by
  obtain ⟨pt, lo, hi, mark, marked, ro, fo, tick, clean, t, m, p, o, l, logs, empty, lock, saved, tokens⟩ := S
  simp only at hsv hlo hhi htk hS ⊢
  subst hsv hlo hhi
  have HN := Lib.hid (bnoneB h)
  have c17 : w.cell? ⟨b, 17, none⟩ = some (.slice none 0 0) := h.cell (j := 17) rfl
  have H := Lib.hid h
  have HSz := Lib.hid hS
  have s1 : IntKind.i64.wrap ((n : Int) + 1) = ((n + 1 : Nat) : Int) := by rw [IntWalk.i64_in _ (by omega)]; omega
  obtain ⟨tk, htk2⟩ : ∃ tk : Nat, tk = tokens + 1 := ⟨_, rfl⟩
  have s2 : IntKind.i64.wrap ((tokens : Int) + 1) = (tk : Int) := by rw [IntWalk.i64_in _ (by omega)]; omega
  have s3 : IntKind.i64.wrap ((tk : Int) - 1) = (tokens : Int) := by rw [IntWalk.i64_in _ (by omega)]; omega
  have HTK := Lib.hid htk2
  have X0 : ∀ X : UpW w.heap.size w, X.w.cell? ⟨b, 0, none⟩ = some (.int .i64 (pt : Int)) := fun X => (h.up X.up).cell (j := 0) rfl
  have X1 : ∀ X : UpW w.heap.size w, X.w.cell? ⟨b, 1, none⟩ = some (.int .i64 1) := fun X => (h.up X.up).cell (j := 1) rfl
  have X2 : ∀ X : UpW w.heap.size w, X.w.cell? ⟨b, 2, none⟩ = some (.int .i64 ((n + 1 : Nat) : Int)) := fun X => (h.up X.up).cell (j := 2) rfl
  have X3 : ∀ X : UpW w.heap.size w, X.w.cell? ⟨b, 3, none⟩ = some (.int .i64 (mark : Int)) := fun X => (h.up X.up).cell (j := 3) rfl
  have X4 : ∀ X : UpW w.heap.size w, X.w.cell? ⟨b, 4, none⟩ = some (.bool marked) := fun X => (h.up X.up).cell (j := 4) rfl
  have X9 : ∀ X : UpW w.heap.size w, X.w.cell? ⟨b, 9, none⟩ = some (pAt t) := fun X => (h.up X.up).cell (j := 9) rfl
  have X17 : ∀ X : UpW w.heap.size w, X.w.cell? ⟨b, 17, none⟩ = some (.slice none 0 0) := fun X => (h.up X.up).cell (j := 17) rfl
  have X18 : ∀ X : UpW w.heap.size w, X.w.cell? ⟨b, 18, none⟩ = some (.int .i64 (tokens : Int)) := fun X => (h.up X.up).cell (j := 18) rfl
  clear h hS hn htk htk2
  go_enter Tryz.func20, Tryz.ntmps20
  go_wp2_with fail
  refine HN.out.mono ?_
  rintro e w1 ⟨rfl, rfl⟩
  go_wp2_with fail
  clear c17
  refine wp_region_mix w.heap.size 36 [([0, 1, 2, 3, 4, 5, 6, 7, 8, 9, 10, 11, 12, 13, 14, 15, 16, 17, 18, 19, 20, 21, 22, 23, 24, 25, 26, 27, 28], 29), ([30, 31, 32, 33], 34), ([], 35)] [] (by kernel_rfl) (fun c d v a w h => by cases d <;> exact h) (by kernel_rfl) ?_
  simp only [wpMix, pk_nil, pk_cons, pushAt_zero, pushAt_succ, List.drop_succ_cons, List.drop_zero]
  repeat (go_big_quiet_step (fail))
  refine wpQuiet_nil ?_
  clear X0 X1 X2 X3 X4 X9 X17 X18
  go_wp2_with fail
  refine (HSz.out _ (Below.refl _ w).drew).mono ?_
  rintro e w2 ⟨rfl, hb2⟩
  have hb2' : Below w.heap.size w w2 := ((Below.refl _ w).drew).trans hb2
  go_wp2_with fail
  refine thenQ_normal ⟨⟨⟨_, hb2'⟩, rfl⟩, ?_⟩
  repeat (go_big_quiet_step (fail))
  refine wpQuiet_nil ?_
  go_wp2_with fail
  have hb3 := below1 w2 (.cells (encX ⟨pt, 1, n + 1, mark, marked, tokens, true⟩).toArray 93)
  refine thenQ_normal ⟨⟨⟨_, hb2'.trans (hb3.mono hb2'.size)⟩, rfl⟩, ?_⟩
  refine wpQuiet_nil ?_
  obtain ⟨v', w3, happ, hown, hb4, ho4, _⟩ := append_elem eltX (B := w2.heap.size) (w := w2) (xs := []) (v := .slice none 0 0) (ROwn.nil _ _) (Nat.le_refl _) ⟨pt, 1, n + 1, mark, marked, tokens, true⟩ (by simp) (by omega)
  refine wpList_app_run rfl _ _ _ rfl rfl rfl happ ?_
  go_wp2_with fail
  have hb4' : Below w.heap.size w w3 := hb2'.trans (hb4.mono hb2'.size)
  refine thenQ_normal ⟨⟨⟨_, hb4'⟩, rfl⟩, ?_⟩
  refine wpQuiet_nil ?_
  obtain ⟨g, cap, hv, hcp, hcm, hBg, hg, _, _⟩ := hown.lies eltX (by simp)
  have hRS : RSl encX w3 (some ⟨g, 0, none⟩) [⟨pt, 1, n + 1, mark, marked, tokens, true⟩] := by
    obtain ⟨A, cp, e, _, _, hR⟩ := hown.shape eltX
    rw [hv] at e
    have e2 := (Value.slice.inj e).1
    subst e2
    exact hR
  have hlen : ([] ++ [(⟨pt, 1, n + 1, mark, marked, tokens, true⟩ : Exc)]).length = 1 := rfl
  rw [hlen] at hv hcp
  subst hv
  have hbg : g ≠ b := by have := H.out.lt; have := hb2'.size; omega
  have hk3 := H.out.up hb4'
  have q17 := hk3.cell (j := 17) rfl
  have f17 := hk3.fz 17
  have q18 : w3.cell? ⟨b, 18, none⟩ = some (.int .i64 (tokens : Int)) := hk3.cell (j := 18) rfl
  have f18 := hk3.fz 18
  have K3 := Lib.hid hk3
  have R3 := Lib.hid hRS
  have B3 := Lib.hid hb4'
  have HH := Lib.hid (⟨hcp, hcm, hbg, hg⟩ : _ ∧ _ ∧ _ ∧ _)
  clear hk3 hRS hb4' hb4 ho4 hown happ hb2' hb2 hb3 hlen hcp hcm hbg hg hBg
  go_wp2_with fail
  go_ret2
  have hk5 := (K3.out.set (j := 17) (by simp) (.slice (some ⟨g, 0, none⟩) 1 cap)).set (j := 18) (by simp) (.int .i64 (tk : Int))
  have ho5 : Only (fun k => k = b) w3 ((w3.setCell ⟨b, 17, none⟩ (.slice (some ⟨g, 0, none⟩) 1 cap)).setCell ⟨b, 18, none⟩ (.int .i64 (tk : Int))) := ((Only.refl (fun k => k = b) w3).setCell (p := ⟨b, 17, none⟩) rfl _).setCell (p := ⟨b, 18, none⟩) rfl _
  rw [HTK.out] at hk5 ho5 ⊢
  exact ⟨rfl, (Only.of_below B3.out).trans ho5, g, cap, HH.out.1, HH.out.2.1, hk5, HH.out.2.2.1, R3.out.kept ho5.size (fun g' o e => by cases e; exact ho5.block g HH.out.2.2.2 HH.out.2.2.1)⟩
set_option maxHeartbeats 1000000 in
theorem restore1_ok {k0 : Nat} (x : Exc) (t : Int) (h0 : w.cell? ⟨k0, 0, none⟩ = some (.int .i64 t)) (hx : (x.tok : Int) = t) : Calls Tryz.prog 65 #[.agg (encX x).toArray, pAt k0] w fun r w' => r = .returned (.bool true) ∧ Below w.heap.size w w' := by
  obtain ⟨pt, lo, hi, mark, marked, tok, whole⟩ := x
  simp only at hx
  subst hx
  have hb := below1 w (.cells (encX ⟨pt, lo, hi, mark, marked, tok, whole⟩).toArray 93)
  have h1 := cell_up h0 hb
  go_enter Tryz.func65, Tryz.ntmps65
  go_wp2_with fail
  go_ret
  exact ⟨rfl, hb⟩
set_option maxRecDepth 100000 in
set_option maxHeartbeats 2000000 in
theorem idxX {k0 g cap : Nat} (x : Exc) (t : Int) (hR : RSl encX w (some ⟨g, 0, none⟩) [x]) (h0 : w.cell? ⟨k0, 0, none⟩ = some (.int .i64 t)) (hx : (x.tok : Int) = t) :
    Calls Tryz.prog 64 #[.slice (some ⟨g, 0, none⟩) 1 cap, .func (.func 65) #[] #[pAt k0]] w fun r w' => r = .returned (.int .i64 0) ∧ Below w.heap.size w w' := by
  have HC := Lib.hid (restore1_ok x t h0 hx)
  obtain ⟨g', o, e, hg, hat⟩ := hR.at_ eltX (i := 0) rfl
  cases e
  have hent := enters_mk Tryz.func65 (by kernel_rfl) rfl
  have hin : ∀ (args : Array Value) (w : World), (callFunc 65 args).run Tryz.prog w = .ok (.enter 65 args) w := hent
  obtain ⟨pt, lo, hi, mark, marked, tok, whole⟩ := x
  have x0 := hat 0 _ rfl
  have x1 := hat 1 _ rfl
  have x2 := hat 2 _ rfl
  have x3 := hat 3 _ rfl
  have x4 := hat 4 _ rfl
  have x5 := hat 5 _ rfl
  have x6 := hat 6 _ rfl
  simp only [Nat.zero_mul, Nat.zero_add, Nat.add_zero] at x0 x1 x2 x3 x4 x5 x6
  clear hat hR h0 hx
  go_enter Tryz.func64, Tryz.ntmps64
  go_wp2_with fail
  go_loopw [8] (fun va wr => va = .int .i64 0 ∧ w = wr) (fun _ _ => 0)
  case atStart => exact ⟨rfl, rfl⟩
  case round =>
    obtain ⟨rfl, rfl⟩ := hrel
    go_wp2_with fail
    refine HC.out.mono ?_
    rintro r w1 ⟨rfl, hb1⟩
    go_wp2_with fail
    go_ret
    exact ⟨rfl, hb1⟩
set_option maxRecDepth 100000 in
set_option maxHeartbeats 4000000 in
theorem restoreB {g cap : Nat} {x : Exc} (h : BufB w b S) (hsv : S.saved = .slice (some ⟨g, 0, none⟩) 1 cap) (hcp : 1 ≤ cap) (hgb : g ≠ b) (hR : RSl encX w (some ⟨g, 0, none⟩) [x]) (hw : x.whole = true) (hn : n ≤ 1000000) (hpt : x.pt ≤ 1000000)
    (hS : ∀ w1, (w1.cell? ⟨b, 9, none⟩ = some (pAt S.t)) → Only (fun k => k = b) w w1 → Calls Tryz.prog 31 #[pAt S.t] w1 fun r w2 => r = .returned (.int .i64 n) ∧ Below w1.heap.size w1 w2) :
    Calls Tryz.prog 21 #[pAt b, .int .i64 x.tok] w fun r w' => r = .returned (.int .i64 0) ∧ Only (fun k => k = b) w w' ∧ BufB w' b { S with pt := min (max x.pt 1) (n + 1), lo := 1, hi := n + 1, mark := x.mark, marked := x.marked, saved := .slice (some ⟨g, 0, none⟩) 0 cap } := by
  have hb := below1 w (.cells #[.int .i64 (x.tok : Int)] 3)
  have hk := Blk.made w 3 #[.int .i64 (x.tok : Int)]
  have HB := Lib.hid hb
  have H := Lib.hid (h.up hb)
  have HR := Lib.hid (hR.up hb)
  have HI := Lib.hid (idxX (cap := cap) x x.tok (hR.up hb) (hk.cell (j := 0) rfl) rfl)
  have HSz := Lib.hid (fun w1 h9 ho => hS w1 h9 ((Only.of_below hb).trans ho))
  have HN := Lib.hid (bnoneB (h.up hb))
  have HH := Lib.hid (⟨hcp, hgb, hn, hpt⟩ : _ ∧ _ ∧ _ ∧ _)
  obtain ⟨pt, lo, hi, mark, marked, ro, fo, tick, clean, t, m, p, o, l, logs, empty, lock, saved, tokens⟩ := S
  simp only at hsv HSz ⊢
  subst hsv
  obtain ⟨xpt, xlo, xhi, xmark, xmarked, xtok, xwhole⟩ := x
  simp only at hw
  subst hw
  clear h hb hk hR hS hcp hgb hn hpt
  go_enter Tryz.func21, Tryz.ntmps21
  go_wp2_with fail
  generalize w.alloc (.cells #[.int .i64 (xtok : Int)] 3) = W at *
  refine HN.out.mono ?_
  rintro e w1 ⟨rfl, rfl⟩
  have c17 : W.cell? ⟨b, 17, none⟩ = some (.slice (some ⟨g, 0, none⟩) 1 cap) := H.out.cell (j := 17) rfl
  go_wp2_with fail
  refine HI.out.mono ?_
  rintro e w2 ⟨rfl, hb2⟩
  have hk2 := H.out.up hb2
  have q17 : w2.cell? ⟨b, 17, none⟩ = some (.slice (some ⟨g, 0, none⟩) 1 cap) := hk2.cell (j := 17) rfl
  have f17 := hk2.fz 17
  have q0 := hk2.cell (j := 0) rfl
  have q1 := hk2.cell (j := 1) rfl
  have q2 := hk2.cell (j := 2) rfl
  have q3 := hk2.cell (j := 3) rfl
  have q4 := hk2.cell (j := 4) rfl
  have f0 := hk2.fz 0
  have f1 := hk2.fz 1
  have f2 := hk2.fz 2
  have f3 := hk2.fz 3
  have f4 := hk2.fz 4
  have hblt := hk2.lt
  have hbne : ¬ w2.heap.size = b := by omega
  obtain ⟨g', o', e, hg, hat⟩ := (HR.out.up hb2).at_ eltX (i := 0) rfl
  cases e
  have x0 := hat 0 _ rfl
  have x1 := hat 1 _ rfl
  have x2 := hat 2 _ rfl
  have x3 := hat 3 _ rfl
  have x4 := hat 4 _ rfl
  have x5 := hat 5 _ rfl
  have x6 := hat 6 _ rfl
  simp only [Nat.zero_mul, Nat.zero_add, Nat.add_zero] at x0 x1 x2 x3 x4 x5 x6
  have K2 := Lib.hid hk2
  have B2 := Lib.hid hb2
  clear hat hk2 hb2 c17 HI HN
  go_wp2_with fail
  have hk3 : BufB ((((((w2.setCell ⟨b, 17, none⟩ (.slice (some ⟨g, 0, none⟩) 0 cap)).setCell ⟨b, 0, none⟩ (.int .i64 (xpt : Int))).setCell ⟨b, 1, none⟩ (.int .i64 (xlo : Int))).setCell ⟨b, 2, none⟩ (.int .i64 (xhi : Int))).setCell ⟨b, 3, none⟩ (.int .i64 (xmark : Int))).setCell ⟨b, 4, none⟩ (.bool xmarked)) b ⟨xpt, xlo, xhi, xmark, xmarked, ro, fo, tick, clean, t, m, p, o, l, logs, empty, lock, .slice (some ⟨g, 0, none⟩) 0 cap, tokens⟩ :=
    (((((K2.out.set (j := 17) (by simp) (.slice (some ⟨g, 0, none⟩) 0 cap)).set (j := 0) (by simp) (.int .i64 (xpt : Int))).set (j := 1) (by simp) (.int .i64 (xlo : Int))).set (j := 2) (by simp) (.int .i64 (xhi : Int))).set (j := 3) (by simp) (.int .i64 (xmark : Int))).set (j := 4) (by simp) (.bool xmarked)
  have ho3 : Only (fun k => k = b) w2 ((((((w2.setCell ⟨b, 17, none⟩ (.slice (some ⟨g, 0, none⟩) 0 cap)).setCell ⟨b, 0, none⟩ (.int .i64 (xpt : Int))).setCell ⟨b, 1, none⟩ (.int .i64 (xlo : Int))).setCell ⟨b, 2, none⟩ (.int .i64 (xhi : Int))).setCell ⟨b, 3, none⟩ (.int .i64 (xmark : Int))).setCell ⟨b, 4, none⟩ (.bool xmarked)) :=
    ((((((Only.refl (fun k => k = b) w2).setCell (p := ⟨b, 17, none⟩) rfl _).setCell (p := ⟨b, 0, none⟩) rfl _).setCell (p := ⟨b, 1, none⟩) rfl _).setCell (p := ⟨b, 2, none⟩) rfl _).setCell (p := ⟨b, 3, none⟩) rfl _).setCell (p := ⟨b, 4, none⟩) rfl _
  have hz3 : ((((((w2.setCell ⟨b, 17, none⟩ (.slice (some ⟨g, 0, none⟩) 0 cap)).setCell ⟨b, 0, none⟩ (.int .i64 (xpt : Int))).setCell ⟨b, 1, none⟩ (.int .i64 (xlo : Int))).setCell ⟨b, 2, none⟩ (.int .i64 (xhi : Int))).setCell ⟨b, 3, none⟩ (.int .i64 (xmark : Int))).setCell ⟨b, 4, none⟩ (.bool xmarked)).heap.size = w2.heap.size := by simp
  clear q17 f17 q0 q1 q2 q3 q4 f0 f1 f2 f3 f4 x0 x1 x2 x3 x4 x5 x6
  generalize (((((w2.setCell ⟨b, 17, none⟩ (.slice (some ⟨g, 0, none⟩) 0 cap)).setCell ⟨b, 0, none⟩ (.int .i64 (xpt : Int))).setCell ⟨b, 1, none⟩ (.int .i64 (xlo : Int))).setCell ⟨b, 2, none⟩ (.int .i64 (xhi : Int))).setCell ⟨b, 3, none⟩ (.int .i64 (xmark : Int))).setCell ⟨b, 4, none⟩ (.bool xmarked) = W3 at *
  have hb4 := below1 W3 (.cells (encX ⟨xpt, xlo, xhi, xmark, xmarked, xtok, true⟩).toArray 93)
  have hx4 := Blk.made W3 93 (encX ⟨xpt, xlo, xhi, xmark, xmarked, xtok, true⟩).toArray
  rw [hz3] at hx4
  have K4 := Lib.hid (hk3.up hb4)
  have X4 := Lib.hid hx4
  have O4 := Lib.hid (((Only.of_below B2.out).trans ho3).trans (Only.of_below hb4))
  have hn := HH.out.2.2.1
  have HW := Lib.hid (widenB (n := n) K4.out hn (fun w1 hb => HSz.out w1 ((K4.out.up hb).cell (j := 9) rfl) (O4.out.trans (Only.of_below hb))))
  have hWX : W3.heap.size = w2.heap.size := hz3
  clear hk3 ho3 hb4 hx4 hz3 hn
  refine HW.out.mono ?_
  rintro e w5 ⟨rfl, w4, hb5, rfl⟩
  have hk5 : BufB ((w4.setCell ⟨b, 1, none⟩ (.int .i64 1)).setCell ⟨b, 2, none⟩ (.int .i64 ((n + 1 : Nat) : Int))) b ⟨xpt, 1, n + 1, xmark, xmarked, ro, fo, tick, clean, t, m, p, o, l, logs, empty, lock, .slice (some ⟨g, 0, none⟩) 0 cap, tokens⟩ :=
    ((K4.out.up hb5).set (j := 1) (by simp) (.int .i64 1)).set (j := 2) (by simp) (.int .i64 ((n + 1 : Nat) : Int))
  have ho5 : Only (fun k => k = b) w4 ((w4.setCell ⟨b, 1, none⟩ (.int .i64 1)).setCell ⟨b, 2, none⟩ (.int .i64 ((n + 1 : Nat) : Int))) := ((Only.refl (fun k => k = b) w4).setCell (p := ⟨b, 1, none⟩) rfl _).setCell (p := ⟨b, 2, none⟩) rfl _
  have K5 := Lib.hid hk5
  have O5 := Lib.hid ((O4.out.trans (Only.of_below hb5)).trans ho5)
  have hx5 := (X4.out.up hb5).only ho5 (fun e => hbne e)
  have x0 : _ = some (Value.int .i64 (xpt : Int)) := hx5.cell (j := 0) rfl
  clear hk5 ho5 hx5 hb5 HW K4 X4 O4
  generalize (w4.setCell ⟨b, 1, none⟩ (.int .i64 1)).setCell ⟨b, 2, none⟩ (.int .i64 ((n + 1 : Nat) : Int)) = W5 at *
  go_wp2_with fail
  refine (stand_ok K5.out xpt).mono ?_
  rintro e w6 ⟨rfl, ho6, hk6⟩
  have K6 := Lib.hid hk6
  clear hk6
  go_wp2_with fail
  go_ret
  exact ⟨rfl, ((Only.of_below HB.out).trans O5.out).trans ho6, K6.out⟩
end
end Go.Proofs.YtobnmpgfkgoapaaGreatDoor
/- copyistlaw20: with. -/
namespace Go.Proofs.YtobnmpgfkgoapaaGreatDoor
open Go.RowKit Go.Lib
set_option linter.unusedVariables false
set_option linter.unusedSimpArgs false
abbrev freshT (t m p o l : Nat) (lock : Int) : Tx := ⟨freshS t m p o l lock, [], [], [], -1⟩
/-- A buffer that holds a string, its group closed. -/
def withT (t m p o l : Nat) (lock : Int) (s : List Nat) : Tx := shutT (insT (freshT t m p o l lock) s false)
section
variable {w w' : World} {N : Nat}
theorem fitsE_fresh {s : ByteArray} (hs : s.size ≤ 10000) (hv : (charsD s.data.toList).isSome = true) : fitsE s 0 0 = 0 := by
  have := chrs_len s
  unfold fitsE
  rw [vld_chars, if_pos hv, rlenG_chars hv, if_neg (by simp; omega)]
theorem fitsE_bad {s : ByteArray} {n : Nat} {less : Int} (hv : ¬ (charsD s.data.toList).isSome = true) : fitsE s n less = 5 := by
  unfold fitsE
  rw [vld_chars, if_neg hv]
set_option maxHeartbeats 2000000 in
theorem with_ok (hT : Tabs N w) (hR : Rules N w) (hN : N ≤ w.heap.size) (s : ByteArray) (hs : s.size ≤ 10000) :
    Calls Tryz.prog 6 #[.string s] w fun r w' => ∃ b t m p o l, r = .returned (.tuple #[pAt b, .bool (charsD s.data.toList).isSome]) ∧ Below w.heap.size w w' ∧
      ((charsD s.data.toList).isSome = true → PB N w' b (fun k => w.heap.size ≤ k ∧ k < w'.heap.size) (withT t m p o l 3 (chrs s)) 5) := by
  have HT := Lib.hid hT
  have HR := Lib.hid hR
  clear hT hR
  go_enter Tryz.func6, Tryz.ntmps6
  go_wp2_with fail
  refine (bufNewX HT.out hN 1 2 3).mono ?_
  rintro e w1 ⟨b, t, l, m, p, o, rfl, hb1, hp1⟩
  have B1 := Lib.hid hb1
  have P1 := Lib.hid hp1
  have z1 := hb1.size
  have HI := Lib.hid (bInsert (HT.out.up hb1) (HR.out.up hb1) hp1 (by omega) rfl s (by omega))
  clear hb1 hp1
  by_cases hv : (charsD s.data.toList).isSome = true
  · have hf := fitsE_fresh hs hv
    have HI2 := HI.out
    simp only [List.length_nil, hf, if_true] at HI2
    have HV := Lib.hid hv
    have HJ := Lib.hid HI2
    clear HI HI2 hf hv
    go_wp2_with fail
    refine HJ.out.mono ?_
    rintro e w2 ⟨rfl, ho2, hp2⟩
    have P2 := Lib.hid (hp2.bound)
    have O2 := Lib.hid (ho2.below z1 (fun k hk => hk.1))
    have HBd := Lib.hid (bBoundary P2.out (by omega))
    have z2 := ho2.size
    clear hp2 ho2 HJ
    go_wp2_with fail
    refine HBd.out.mono ?_
    rintro e w3 ⟨rfl, ho3, hp3⟩
    have P3 := Lib.hid hp3.bound
    have O3 := Lib.hid (ho3.below (by omega : w.heap.size ≤ w2.heap.size) (fun k hk => hk.1.elim (fun e => e.1) (fun e => by omega)))
    clear hp3 ho3 HBd
    go_wp2_with fail
    go_ret2
    refine ⟨b, t, m, p, o, l, by rw [HV.out]; rfl, (B1.out.trans O2.out).trans O3.out, fun _ => ?_⟩
    have hp := P3.out
    refine PB.mono (B := 0 + 4 + 1) hp (fun k hk => ⟨?_, hk.2⟩) (by decide)
    exact hk.1.elim (fun e => e.1.elim (fun q => q.1) (fun q => by omega)) (fun e => by omega)
  · have hf := fitsE_bad (n := 0) (less := 0) hv
    have HI2 := HI.out
    simp only [List.length_nil, hf] at HI2
    have hv' : (charsD s.data.toList).isSome = false := by simpa using hv
    have HV' := Lib.hid hv'
    have HJ := Lib.hid HI2
    clear HI HI2 hf hv hv'
    go_wp2_with fail
    refine HJ.out.mono ?_
    rintro e w2 ⟨rfl, ho2, hp2⟩
    have O2 := Lib.hid (ho2.below z1 (fun k hk => hk.1))
    clear hp2 ho2 HJ
    go_wp2_with fail
    go_ret2
    exact ⟨b, t, m, p, o, l, by rw [HV'.out]; rfl, B1.out.trans O2.out, fun h => by rw [HV'.out] at h; cases h⟩
end
/-! ### the states that lives passes -/
section
variable (t m p o l : Nat)
def lvS : List (List Nat) := [[104, 101, 108, 108, 111], [120, 104, 101, 108, 108, 111]]
def lv1 : Tx := withT t m p o l 3 [104, 101, 108, 108, 111]
def lv2 : Tx := { lv1 t m p o l with S := { (lv1 t m p o l).S with pt := 1 } }
def lv3 : Tx := insT (lv2 t m p o l) [120] false
def lvG : List Chg := [insChg 1 1, pointC 1]
def lv4 : Tx := shutT (revsT { shutT (lv3 t m p o l) with ch := 1 } lvG)
def lv5 : Tx := { lv4 t m p o l with S := { (lv4 t m p o l).S with lo := 2, hi := 4, pt := min (max (lv4 t m p o l).S.pt 2) 4 } }
theorem lv_c3 : (lv3 t m p o l).cs = [120, 104, 101, 108, 108, 111] := by rfl
theorem lv_e3 : encS (lv3 t m p o l).cs = ⟨#[120, 104, 101, 108, 108, 111]⟩ := by rw [lv_c3]; kernel_rfl
theorem lv_c4 : (lv4 t m p o l).cs = [104, 101, 108, 108, 111] := by rfl
theorem lv_e4 : encS (lv4 t m p o l).cs = ⟨#[104, 101, 108, 108, 111]⟩ := by rw [lv_c4]; kernel_rfl
theorem lv_p4 : (lv4 t m p o l).S.pt = 1 := by rfl
theorem lv_g3 : logShut (lv3 t m p o l).G (lv3 t m p o l).O = [[cleanC, pointC 1, insChg 1 5], [pointC 1, insChg 1 1]] := by rfl
theorem lv_r3 : RevsOk { shutT (lv3 t m p o l) with ch := 1 } lvG := ⟨.inl ⟨rfl, by decide, by decide, by show ((1 + 1 : Nat) : Int) ≤ ((lv3 t m p o l).cs.length : Int) + 1; rw [lv_c3]; decide⟩, .inr (.inr (.inl ⟨rfl, by decide⟩)), trivial⟩
theorem chrs_hello : chrs ⟨#[104, 101, 108, 108, 111]⟩ = [104, 101, 108, 108, 111] := by rfl
theorem chrs_x : chrs ⟨#[120]⟩ = [120] := by rfl
end
end Go.Proofs.YtobnmpgfkgoapaaGreatDoor
