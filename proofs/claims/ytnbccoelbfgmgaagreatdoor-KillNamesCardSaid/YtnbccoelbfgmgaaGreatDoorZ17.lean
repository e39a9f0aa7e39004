import Derived.Test.YtnbccoelbfgmgaaGreatDoorZ16
/- package buffer: Boundary and Undo at a plain buffer. -/
namespace Go.Proofs.YtnbccoelbfgmgaaGreatDoor
open Go.RowKit Go.Lib
set_option linter.unusedVariables false
set_option linter.unusedSimpArgs false
theorem logShut_len (G : List (List Chg)) (O : List Chg) : (logShut G O).length ≤ G.length + 1 := by unfold logShut; split <;> simp
/-- Behind Boundary. -/
def shutT (T : Tx) : Tx := { T with S := { T.S with empty := true }, G := logShut T.G T.O, O := [] }
section
variable {N : Nat} {w w' : World} {b mm : Nat} {F F' Fg Fl : Nat → Prop} {pr ev : Int} {T T' : Tx} {co nw co' nw' : Int} {B B' : Nat}
theorem plog_bound (h : PB N w b F T B) (hB : B ≤ 900000) : Calls Tryz.prog 71 #[pAt T.S.l] w fun r w' => r = .returned (.int .i64 0) ∧ Only F w w' ∧ PB N w' b (grow F w.heap.size) { T with G := logShut T.G T.O, O := [] } (B + 1) := by
  have htk := h.tick
  obtain ⟨Fl, co, nw, hl, hF, hNl, e1, e2, e3, e4, e5, e6, e7, hback⟩ := h.log
  refine (lboundF hl (by omega) (by omega) e7).mono ?_
  rintro r w' ⟨rfl, hl', ho⟩
  have hll := logShut_len T.G T.O
  obtain ⟨o1, p1⟩ := hback w' _ _ [] _ _ 0 (B + 1) w'.heap.size ho ho.size (Nat.le_refl _) hl'.bound (fun k hk => hk) (by simp) (by omega) (by omega) (by omega) e5 (by omega) (fun _ => rfl) (by omega)
  exact ⟨rfl, o1, p1.mono (fun k hk => hk.1) (Nat.le_refl _)⟩
theorem PB.setEmpty (h : PB N w b F T B) (v : Bool) : Only F w (w.setCell ⟨b, 15, none⟩ (.bool v)) ∧ PB N (w.setCell ⟨b, 15, none⟩ (.bool v)) b F { T with S := { T.S with empty := v } } B := by
  have hs := h.sane
  exact h.turn ((Only.refl (fun k => k = b) w).setCell (p := ⟨b, 15, none⟩) rfl _) (h.blk.set (j := 15) (by simp) (.bool v)) ⟨rfl, rfl, rfl, rfl, rfl, rfl⟩ ⟨hs.l1, hs.lp, hs.ph, hs.hn, hs.ma⟩ h.tick h.logs
set_option maxHeartbeats 1000000 in
theorem bBoundary (h : PB N w b F T B) (hB : B ≤ 900000) : Calls Tryz.prog 34 #[pAt b] w fun r w' => r = .returned (.int .i64 0) ∧ Only F w w' ∧ PB N w' b (grow F w.heap.size) (shutT T) (B + 1) := by
  have c14 : w.cell? ⟨b, 14, none⟩ = some (.bool true) := by rw [← h.logs]; exact h.blk.cell (j := 14) rfl
  have c13 : w.cell? ⟨b, 13, none⟩ = some (pAt T.S.l) := h.blk.cell (j := 13) rfl
  have HN := Lib.hid (bnoneB h.blk)
  have HL := Lib.hid (plog_bound h hB)
  clear h hB
  generalize hl : T.S.l = l at *
  go_enter Tryz.func34, Tryz.ntmps34
  go_wp2_with fail
  refine HN.out.mono ?_
  rintro r w1 ⟨rfl, rfl⟩
  go_wp2_with fail
  refine HL.out.mono ?_
  rintro r w1 ⟨rfl, ho, hp⟩
  have q15 := hp.blk.cell (j := 15) rfl
  have f15 := hp.blk.fz 15
  have HP := Lib.hid hp
  have HO := Lib.hid ho
  clear hp ho
  go_wp2_with fail
  go_ret
  obtain ⟨o2, p2⟩ := HP.out.setEmpty true
  exact ⟨rfl, Only.grow HO.out o2, p2⟩
/-- What the log's Undo makes of a plain buffer. -/
def PUndo (N : Nat) (w : World) (b : Nat) (F : Nat → Prop) (T : Tx) (B : Nat) (c : Int) (r : Ending) (w' : World) : Prop :=
  Only F w w' ∧ ∃ n, w.heap.size ≤ n ∧ n ≤ w'.heap.size ∧
    ((c = 0 ∧ r = .returned (.tuple #[.slice none 0 0, .int .i64 13]) ∧ PB N w' b (fun k => grow F w.heap.size k ∧ k < n) { T with G := logShut T.G T.O, O := [], ch := 0 } (B + 1)) ∨
     ∃ (m : Nat) (g : List Chg) (v : Value), c = ((m + 1 : Nat) : Int) ∧ (logShut T.G T.O)[m]? = some g ∧ r = .returned (.tuple #[v, .int .i64 0]) ∧ PB N w' b (fun k => grow F w.heap.size k ∧ k < n) { T with G := logShut T.G T.O, O := [], ch := m } (B + 1) ∧ ROwn encCg 119 9 n w' v g.reverse)
theorem plog_undo (h : PB N w b F T B) (hB : B ≤ 900000) (hGG : ∀ g ∈ logShut T.G T.O, g.length ≤ 900002) (again : Bool) (hch : T.ch ≤ (logShut T.G T.O).length) :
    Calls Tryz.prog 69 #[pAt T.S.l, .bool again] w (PUndo N w b F T B (chainN again T.ch (logShut T.G T.O).length)) := by
  have htk := h.tick
  obtain ⟨Fl, co, nw, hl, hF, hNl, e1, e2, e3, e4, e5, e6, e7, hback⟩ := h.log
  have hll := logShut_len T.G T.O
  refine (lundo hl (by omega) (by omega) (by omega) e7 hGG again hch).mono ?_
  rintro r w' ⟨ho, n, hn1, hn2, ⟨hc, rfl, hl'⟩ | ⟨m, g, v, hc, hg, rfl, hl', hv⟩⟩
  · obtain ⟨o1, p1⟩ := hback w' _ _ [] _ _ 0 (B + 1) n ho hn1 hn2 hl' (fun k hk => hk) (by simp) (by omega) (by omega) (by omega) e5 (by omega) (fun _ => rfl) (by omega)
    exact ⟨o1, n, hn1, hn2, .inl ⟨hc, rfl, p1⟩⟩
  · obtain ⟨o1, p1⟩ := hback w' _ _ [] _ _ 0 (B + 1) n ho hn1 hn2 hl' (fun k hk => hk) (by simp) (by omega) (by omega) (by omega) e5 (by omega) (fun _ => rfl) (by omega)
    exact ⟨o1, n, hn1, hn2, .inr ⟨m, g, v, hc, hg, rfl, p1, hv⟩⟩
set_option maxHeartbeats 1000000 in
theorem open_ok {S : BS} (h : BufB w b S) (hro : S.ro = false) : Calls Tryz.prog 68 #[pAt b] w fun r w' => r = .returned (.int .i64 0) ∧ w = w' := by
  have c5 : w.cell? ⟨b, 5, none⟩ = some (.bool false) := by rw [← hro]; exact h.cell (j := 5) rfl
  clear h hro
  go_enter Tryz.func68, Tryz.ntmps68
  go_wp2_with fail
  go_ret
  exact ⟨rfl, rfl⟩
abbrev openC (b : Nat) : Chk := ⟨68, #[pAt b], #[], 0⟩
theorem ChkAt.open {S : BS} (h : BufB w b S) (hro : S.ro = false) : ChkAt w True (openC b) := ⟨enters_mk Tryz.func68 (by kernel_rfl) rfl, fun _ w1 hb => (open_ok (h.up hb) hro).mono fun _ _ ⟨h1, h2⟩ => ⟨h1, h2 ▸ Below.refl _ _⟩⟩
set_option maxHeartbeats 1000000 in
theorem undo1_ok {S : BS} {k0 : Nat} (h : BufB w b S) (hlg : S.logs = true) (h0 : w.cell? ⟨k0, 0, none⟩ = some (pAt b)) : Calls Tryz.prog 67 #[pAt k0] w fun r w' => r = .returned (.bool true) ∧ Below w.heap.size w w' := by
  have c14 : w.cell? ⟨b, 14, none⟩ = some (.bool true) := by rw [← hlg]; exact h.cell (j := 14) rfl
  clear h hlg
  go_enter Tryz.func67, Tryz.ntmps67
  go_wp2_with fail
  go_ret
  exact ⟨rfl, Below.refl _ _⟩
/-- The changes undone one by one. -/
def revsT (T : Tx) (L : List Chg) : Tx := L.foldl revT T
def revsC (L : List Chg) : Nat := (L.map revC).sum
/-- Each can be undone when its turn comes. -/
def RevsOk : Tx → List Chg → Prop
  | _, [] => True
  | T, c :: L => RevOk T c ∧ RevsOk (revT T c) L
theorem revsT_snoc (T : Tx) (L : List Chg) (c : Chg) : revsT T (L ++ [c]) = revT (revsT T L) c := by unfold revsT; rw [List.foldl_append]; rfl
theorem RevsOk.at_ : ∀ {T : Tx} {L : List Chg} {i : Nat} {c : Chg}, RevsOk T L → L[i]? = some c → RevOk (revsT T (L.take i)) c
  | T, [], i, c, _, h => by simp at h
  | T, d :: L, 0, c, hr, h => by simp at h; subst h; exact hr.1
  | T, d :: L, i + 1, c, hr, h => by
    have := RevsOk.at_ (T := revT T d) (L := L) (i := i) hr.2 (by simpa using h)
    rw [List.take_succ_cons]
    exact this
theorem revsC_snoc (L : List Chg) (c : Chg) : revsC (L ++ [c]) = revsC L + revC c := by unfold revsC; simp
theorem revsC_take : ∀ (L : List Chg) (i : Nat), revsC (L.take i) ≤ revsC L
  | [], i => by simp [revsC]
  | c :: L, 0 => by simp [revsC]
  | c :: L, i + 1 => by
    have := revsC_take L i
    simp only [revsC, List.take_succ_cons, List.map_cons, List.sum_cons] at *
    omega
theorem take_snoc {L : List Chg} {i : Nat} {c : Chg} (h : L[i]? = some c) : L.take (i + 1) = L.take i ++ [c] := by
  rw [List.take_add_one, h]; rfl
/-- What the buffer's Undo makes of a plain buffer. d: what the changes cost. -/
def BUndo (N : Nat) (w : World) (b : Nat) (F : Nat → Prop) (T : Tx) (B d : Nat) (c : Int) (r : Ending) (w' : World) : Prop :=
  Only F w w' ∧ ((c = 0 ∧ r = .returned (.int .i64 13) ∧ PB N w' b (grow F w.heap.size) { shutT T with ch := 0 } (B + 1)) ∨
    ∃ (m : Nat) (g : List Chg), c = ((m + 1 : Nat) : Int) ∧ (logShut T.G T.O)[m]? = some g ∧ r = .returned (.int .i64 0) ∧
      PB N w' b (grow F w.heap.size) (shutT (revsT { shutT T with ch := m } g.reverse)) (B + d + 2))
set_option maxRecDepth 100000 in
set_option maxHeartbeats 4000000 in
theorem bUndo (hT : Tabs N w) (hR : Rules N w) (h : PB N w b F T B) (hF : edF N F) {d : Nat} (hB : B + d ≤ 890000) (hGG : ∀ g ∈ logShut T.G T.O, g.length ≤ 900000) (again : Bool) (hch : T.ch ≤ (logShut T.G T.O).length) (hro : T.S.ro = false)
    (hrev : ∀ m g, chainN again T.ch (logShut T.G T.O).length = ((m + 1 : Nat) : Int) → (logShut T.G T.O)[m]? = some g → RevsOk { shutT T with ch := m } g.reverse ∧ revsC g.reverse ≤ d) :
    Calls Tryz.prog 32 #[pAt b, .bool again] w (BUndo N w b F T B d (chainN again T.ch (logShut T.G T.O).length)) := by
  have hb := below1 w (.cells #[pAt b] 26)
  have hk := Blk.made w 26 #[pAt b]
  have hz : (w.alloc (.cells #[pAt b] 26)).heap.size = w.heap.size + 1 := by simp
  have HB := Lib.hid hb
  have HK := Lib.hid hk
  have H := Lib.hid (h.bound.up hb)
  have HT := Lib.hid (hT.up hb)
  have HR := Lib.hid (hR.up hb)
  have HZ := Lib.hid hz
  have HH := Lib.hid (⟨hB, hGG, hch, hro, hF, hrev⟩ : _ ∧ _ ∧ _ ∧ _ ∧ _ ∧ _)
  obtain ⟨c, hc⟩ : ∃ c, c = chainN again T.ch (logShut T.G T.O).length := ⟨_, rfl⟩
  rw [← hc]
  have HC := Lib.hid hc
  clear hT hR h hb hk hz hB hGG hch hro hF hrev hc
  go_enter Tryz.func32, Tryz.ntmps32
  go_wp2_with fail
  generalize w.alloc (.cells #[pAt b] 26) = W at *
  have X0 : ∀ X : UpW W.heap.size W, X.w.cell? ⟨w.heap.size, 0, none⟩ = some (pAt b) := fun X => (HK.out.up X.up).cell (j := 0) rfl
  refine wp_region_mixF W.heap.size 9 [([0, 1, 2, 4, 5], 3), ([], 6), ([], 7)] [8] (by kernel_rfl) (fun c d v a w h => by cases d <;> exact h) (by kernel_rfl) ?_
  simp only [wpMix, pk_nil, pk_cons, pushAt_zero, pushAt_succ, List.drop_succ_cons, List.drop_zero]
  repeat (go_big_quiet_step (fail))
  refine wpQuiet_nil ?_
  clear X0
  go_wp2_with fail
  refine (unless_ok 9 67 #[] #[pAt w.heap.size] W.drew).mono ?_
  rintro r w1 ⟨rfl, hb1, he, hf⟩
  have hb1' : Below W.heap.size W w1 := ((Below.refl _ W).drew).trans hb1
  have C1 := Lib.hid (ChkAt.unless (P := True) (p := true) (enters_mk Tryz.func67 (by kernel_rfl) rfl) he hf (fun _ w2 hb2 => undo1_ok ((H.out.up hb1').up hb2).blk H.out.logs (((HK.out.up hb1').up hb2).cell (j := 0) rfl)))
  have M1 := Lib.hid (ChkAt.made (H.out.up hb1').blk)
  have O1 := Lib.hid (ChkAt.open (H.out.up hb1').blk HH.out.2.2.2.1)
  have B1 := Lib.hid hb1'
  clear hb1 he hf
  go_wp2_with fail
  refine thenQ_normal ⟨⟨⟨_, B1.out⟩, rfl⟩, ?_⟩
  refine wpQuiet_nil ?_
  go_wp2_with fail
  have hb2 := below1 w1 (.cells #[(madeC b).val, (unlC W.heap.size (W.heap.size + 1) 0).val, (openC b).val] 67)
  have B2 := Lib.hid (B1.out.trans (hb2.mono B1.out.size))
  refine thenQ_normal ⟨⟨⟨_, B2.out⟩, rfl⟩, ?_⟩
  refine wpQuiet_nil ?_
  have hR3 := RSl.arr (enc := encK) (zs := [madeC b, unlC W.heap.size (W.heap.size + 1) 0, openC b]) (MapKept.heap_alloc w1 (.cells #[(madeC b).val, (unlC W.heap.size (W.heap.size + 1) 0).val, (openC b).val] 67)).1 rfl
  have HF := first_any hR3 3 (by simp) (by
    intro c hc
    simp only [List.mem_cons, List.not_mem_nil, or_false] at hc
    rcases hc with rfl | rfl | rfl
    · exact M1.out.en
    · exact C1.out.en
    · exact O1.out.en) (by
    intro i c w4 hi hz hb
    rcases i with _ | _ | _ | i
    · cases hi; exact M1.out.run trivial w4 (up2 hb2 hb)
    · cases hi; exact C1.out.run trivial w4 (up2 hb2 hb)
    · cases hi; exact O1.out.run trivial w4 (up2 hb2 hb)
    · simp at hi)
  have HF := Lib.hid HF
  clear hR3 hb2 hb1'
  go_wp2_with fail
  refine HF.out.mono ?_
  rintro e w3 ⟨rfl, hb3⟩
  simp only [firstE, if_true]
  go_wp2_with fail
  have B3 := Lib.hid (B2.out.trans (hb3.mono B2.out.size))
  refine thenQ_normal ⟨⟨⟨_, B3.out⟩, rfl⟩, ?_⟩
  repeat (go_big_quiet_step (fail))
  refine wpQuiet_nil ?_
  clear hb3 HF M1 C1 O1 B1 B2
  have P3 := Lib.hid (H.out.up B3.out)
  have K3 := Lib.hid (HK.out.up B3.out)
  have T3 := Lib.hid (HT.out.up B3.out)
  have R3 := Lib.hid (HR.out.up B3.out)
  have q13 : w3.cell? ⟨b, 13, none⟩ = some (pAt T.S.l) := P3.out.blk.cell (j := 13) rfl
  have k0 := K3.out.cell (j := 0) rfl
  go_wp2_with fail
  have hN3 : N ≤ w3.heap.size := P3.out.nN
  have z3 := B3.out.size
  have hZ : w.heap.size + 1 ≤ W.heap.size := by have := HZ.out; omega
  refine (plog_undo P3.out (by have := HH.out.1; omega) (fun g hg => by have := HH.out.2.1 g hg; omega) again HH.out.2.2.1).mono ?_
  rintro r w4 ⟨ho4, n, hn1, hn2, ⟨hc, rfl, hp4⟩ | ⟨m, g, v, hc, hg, rfl, hp4, hv⟩⟩
  · have hk4 := K3.out.only ho4 (fun e => by have := e.2; omega)
    have q15 := hp4.blk.cell (j := 15) rfl
    have f15 := hp4.blk.fz 15
    have k4 := hk4.cell (j := 0) rfl
    have P4 := Lib.hid hp4
    have O4 := Lib.hid ho4
    have HCC := Lib.hid (HC.out.trans hc)
    clear hp4 ho4 hk4 k0 q13 hc
    go_wp2_with fail
    go_ret
    obtain ⟨o5, p5⟩ := P4.out.setEmpty true
    refine ⟨?_, .inl ⟨HCC.out, rfl, p5.mono (fun k hk => hk.1.elim (fun e => .inl e.1) (fun e => .inr (by omega))) (Nat.le_refl _)⟩⟩
    exact (((Only.of_below HB.out).trans (Only.of_below B3.out)).trans (O4.out.mono (fun k hk => hk.1))).then o5 (fun k hk hlt => hk.1.elim (fun e => e.1) (fun e => by omega))
  · obtain ⟨L, hL⟩ : ∃ L, L = g.reverse := ⟨_, rfl⟩
    rw [← hL] at hv
    have hgl := HH.out.2.1 g (List.mem_of_getElem? hg)
    have hLl : L.length ≤ 900000 := by rw [hL]; simpa using hgl
    obtain ⟨hrok, hrd⟩ := HH.out.2.2.2.2.2 m g hc hg
    rw [← hL] at hrok hrd
    have hvb : ∀ k, v.ownBlock = some k → n ≤ k ∧ k < w4.heap.size := fun k hk => ⟨hv.base hk, hv.lt hk⟩
    have hk4 := K3.out.only ho4 (fun e => by have := e.2; omega)
    have q15 := hp4.blk.cell (j := 15) rfl
    have f15 := hp4.blk.fz 15
    have k4 := hk4.cell (j := 0) rfl
    obtain ⟨A, cap, rfl, hcp, hcm, _⟩ := hv.shape eltCg
    obtain ⟨o5, p5⟩ := hp4.setEmpty true
    have P5 := Lib.hid p5
    have O5 := Lib.hid ((((Only.of_below HB.out).trans (Only.of_below B3.out)).trans (ho4.mono (fun k hk => hk.1)) : Only F w w4).then o5 (fun k hk hlt => hk.1.elim (fun e => e.1) (fun e => by omega)))
    have K5 := Lib.hid (hk4.only o5 (fun e => e.1.elim (fun q => by have := q.2; omega) (fun q => by omega)))
    have V5 := Lib.hid (hv.kept (fun k hk => o5.block k (hvb k hk).2 (fun e => by have := (hvb k hk).1; have := e.2; omega)))
    have T5 := Lib.hid ((T3.out.only ho4 (fun k hk => HH.out.2.2.2.2.1 k hk.1)).only o5 (fun k hk => hk.1.elim (fun e => HH.out.2.2.2.2.1 k e.1) (fun e => by omega)))
    have R5 := Lib.hid ((R3.out.only ho4 (fun k hk => HH.out.2.2.2.2.1 k hk.1)).only o5 (fun k hk => hk.1.elim (fun e => HH.out.2.2.2.2.1 k e.1) (fun e => by omega)))
    have z5 : (w4.setCell ⟨b, 15, none⟩ (.bool true)).heap.size ≤ w4.heap.size := by simp
    have z6 : w4.heap.size ≤ (w4.setCell ⟨b, 15, none⟩ (.bool true)).heap.size := by simp
    have HVB := Lib.hid hvb
    have HG := Lib.hid (⟨hc, hg, hL, hrok, hrd⟩ : _ ∧ _ ∧ _ ∧ _ ∧ _)
    have hlo := ho4.size
    clear hp4 ho4 hk4 k0 q13 hc hg hL hrok hrd hvb hv p5 o5 hgl T3 R3 K3 P3
    go_wp2_with fail
    clear q15 f15 k4
    generalize w4.setCell ⟨b, 15, none⟩ (.bool true) = W5 at *
    obtain ⟨T0, hT0⟩ : ∃ T0 : Tx, T0 = { shutT T with ch := m } := ⟨_, rfl⟩
    have P5 : Hid (PB N W5 b (fun k => grow (fun k => F k ∧ k < w.heap.size) w3.heap.size k ∧ k < n) T0 (B + 1)) := by rw [hT0]; exact P5
    obtain ⟨F5, hF5⟩ : ∃ F5 : Nat → Prop, F5 = (fun k => grow (fun k => F k ∧ k < w.heap.size) w3.heap.size k ∧ k < n) := ⟨_, rfl⟩
    rw [← hF5] at P5
    have hF5' : ∀ k, F5 k → (F k ∧ k < w.heap.size) ∨ (w3.heap.size ≤ k ∧ k < n) := fun k hk => by rw [hF5] at hk; exact hk.1.elim .inl (fun e => .inr ⟨e, hk.2⟩)
    have hF6 : edF N (grow F5 W5.heap.size) := fun k hk => hk.elim (fun e => (hF5' k e).elim (fun q => HH.out.2.2.2.2.1 k q.1) (fun q => by omega)) (fun q => by omega)
    have HT0 := Lib.hid hT0
    have HF6 := Lib.hid (⟨hF5', hF6⟩ : _ ∧ _)
    clear hT0 hF5 hF5' hF6
    go_loopw [38] (fun va wr => ∃ i : Nat, i ≤ L.length ∧ va = .int .i64 i ∧ Only (grow F5 W5.heap.size) W5 wr ∧ PB N wr b (grow F5 W5.heap.size) (revsT T0 (L.take i)) (B + 1 + revsC (L.take i))) (fun va _ => int2 va (.int .i64 L.length))
    case atStart => exact ⟨0, Nat.zero_le _, rfl, Only.refl _ _, by simpa [revsT, revsC] using P5.out.mono (fun k hk => .inl hk) (Nat.le_refl _)⟩
    case round =>
      obtain ⟨i, hi, rfl, hor, hpr⟩ := hrel
      have zr := hor.size
      have hkr := K5.out.only hor (fun e => e.elim (fun q => (HF6.out.1 _ q).elim (fun q => by omega) (fun q => by omega)) (fun q => by omega))
      have hTr := T5.out.only hor HF6.out.2
      have hRr := R5.out.only hor HF6.out.2
      have hvr := V5.out.kept (fun k hk => hor.block k (by have := (HVB.out k hk).2; omega) (fun e => e.elim (fun q => (HF6.out.1 _ q).elim (fun q => by have := (HVB.out k hk).1; omega) (fun q => by have := (HVB.out k hk).1; omega)) (fun q => by have := (HVB.out k hk).2; omega)))
      have hlw : w.heap.size < wr.heap.size := by omega
      have hne : ¬ wr.heap.size = w.heap.size := by omega
      have kr : wr.cell? ⟨w.heap.size, 0, none⟩ = some (pAt b) := hkr.cell (j := 0) rfl
      have PR := Lib.hid hpr
      have OR := Lib.hid hor
      by_cases hlt : i < L.length
      · have d1 : decide ((i : Int) < L.length) = true := decide_eq_true (by omega)
        have d2 : ((i : Int) < L.length) = True := eq_true (by omega)
        have s1 : IntKind.i64.wrap ((i : Int) + 1) = ((i + 1 : Nat) : Int) := by rw [IntWalk.i64_in _ (by omega)]; omega
        obtain ⟨c, hx⟩ : ∃ c, L[i]? = some c := ⟨_, List.getElem?_eq_getElem hlt⟩
        have hrv : RevsOk T0 L := by rw [HT0.out]; exact HG.out.2.2.2.1
        have hok := hrv.at_ hx
        have hcst : B + 1 + revsC (L.take i) + revC c ≤ 900000 := by
          have h1 := revsC_take L (i + 1)
          rw [take_snoc hx, revsC_snoc] at h1
          have := HH.out.1; have := HG.out.2.2.2.2
          omega
        obtain ⟨gb, cap', e, hnc, hcm', hBg, hgl, hfz, hcell⟩ := hvr.lies eltCg (by omega)
        cases e
        have hcx := fun j u => hcell i c j u hx
        have HX := Lib.hid hx
        obtain ⟨xk, xa, xb, xid, xnm, xtx, xvk, xvn, xhd⟩ := c
        have x0 := hcx 0 _ rfl
        have x1 := hcx 1 _ rfl
        have x2 := hcx 2 _ rfl
        have x3 := hcx 3 _ rfl
        have x4 := hcx 4 _ rfl
        have x5 := hcx 5 _ rfl
        have x6 := hcx 6 _ rfl
        have x7 := hcx 7 _ rfl
        have x8 := hcx 8 _ rfl
        rw [Nat.add_zero] at x0
        have hb6 := below1 wr (.cells (chgA ⟨xk, xa, xb, xid, xnm, xtx, xvk, xvn, xhd⟩) 119)
        have HRV := Lib.hid (prevert (hTr.up hb6) (hRr.up hb6) (PR.out.up hb6) HF6.out.2 hcst hok)
        have B6 := Lib.hid hb6
        clear hcell hcx hfz hx hb6 hok hrv hTr hRr hvr hkr hor hpr
        go_wp2_with fail
        refine HRV.out.mono ?_
        rintro r w7 ⟨rfl, ho7, hp7⟩
        have O7 := Lib.hid (OR.out.trans ((Only.of_below B6.out).trans ho7))
        have P7 := Lib.hid hp7
        have z6 := B6.out.size
        clear ho7 hp7 HRV
        go_wp2_with fail
        go_roundw
        case rel =>
          refine ⟨i + 1, by omega, by first | rfl | go_num, O7.out, ?_⟩
          rw [take_snoc HX.out, revsT_snoc, revsC_snoc]
          exact P7.out.mono (grow_two (by omega)) (by omega)
        case measure => simp [int2]; omega
      · have d1 : decide ((i : Int) < L.length) = false := decide_eq_false (by omega)
        have d2 : ((i : Int) < L.length) = False := eq_false (by omega)
        obtain rfl : i = L.length := by omega
        rw [List.take_length] at hpr PR
        have hd := HG.out.2.2.2.2
        have hBB := HH.out.1
        have HB2 := Lib.hid (plog_bound PR.out (by omega))
        have q13 : wr.cell? ⟨b, 13, none⟩ = some (pAt (revsT T0 L).S.l) := PR.out.blk.cell (j := 13) rfl
        clear hTr hRr hvr hkr hor hpr
        generalize (revsT T0 L).S.l = l2 at *
        go_wp2_with fail
        refine HB2.out.mono ?_
        rintro r w7 ⟨rfl, ho7, hp7⟩
        have hk7 := (K5.out.only OR.out (fun e => e.elim (fun q => (HF6.out.1 _ q).elim (fun q => by omega) (fun q => by omega)) (fun q => by omega))).only ho7 (fun e => e.elim (fun q => (HF6.out.1 _ q).elim (fun q => by omega) (fun q => by omega)) (fun q => by omega))
        have k7 := hk7.cell (j := 0) rfl
        have q15 := hp7.blk.cell (j := 15) rfl
        have f15 := hp7.blk.fz 15
        have P7 := Lib.hid hp7
        have O7 := Lib.hid (OR.out.trans ho7)
        clear ho7 hp7 hk7 q13 kr HB2
        go_wp2_with fail
        go_ret
        obtain ⟨o8, p8⟩ := P7.out.setEmpty true
        have hsub : ∀ k, grow (grow F5 W5.heap.size) wr.heap.size k → F k ∧ k < w.heap.size ∨ w3.heap.size ≤ k := fun k hk => hk.elim (fun e => e.elim (fun q => (HF6.out.1 k q).elim .inl (fun q => .inr q.1)) (fun q => .inr (by omega))) (fun q => .inr (by omega))
        refine ⟨?_, .inr ⟨m, g, HC.out.trans HG.out.1, HG.out.2.1, rfl, ?_⟩⟩
        · refine (O5.out.then O7.out (fun k hk hlt => ?_)).then o8 (fun k hk hlt => ?_)
          · exact (hsub k (.inl hk)).elim (fun e => e.1) (fun e => by omega)
          · exact (hsub k hk).elim (fun e => e.1) (fun e => by omega)
        · rw [← HG.out.2.2.1]
          have p9 := p8.mono (F' := grow F w.heap.size) (B' := B + d + 2) (fun k hk => (hsub k hk).elim (fun e => .inl e.1) (fun e => .inr (by omega))) (by omega)
          rw [HT0.out] at p9
          exact p9
end
end Go.Proofs.YtnbccoelbfgmgaaGreatDoor
/- package buffer: Replace at a plain buffer. -/
namespace Go.Proofs.YtnbccoelbfgmgaaGreatDoor
open Go.RowKit Go.Lib
set_option linter.unusedVariables false
set_option linter.unusedSimpArgs false
/-- Behind Replace. -/
def repT (T : Tx) (x y : Nat) (s : List Nat) : Tx := putT (takeT T x y) x s false
section
variable {N : Nat} {w w' : World} {b mm : Nat} {F F' Fg Fl : Nat → Prop} {pr ev : Int} {T T' : Tx} {co nw co' nw' : Int} {B B' : Nat}
theorem takeT_len {T : Tx} {x y : Nat} (h1 : 1 ≤ x) (hxy : x ≤ y) (hy : y ≤ T.cs.length + 1) : (takeT T x y).cs.length = T.cs.length - (y - x) := by
  unfold takeT
  split
  · rename_i h; subst h; omega
  · exact delC_len h1 hxy hy
theorem grow_self {n m : Nat} (hn : n ≤ m) : ∀ k, grow (grow F n) m k → grow F n k := grow_two hn
end
end Go.Proofs.YtnbccoelbfgmgaaGreatDoor
/- package buffer: Text, All, Size, Point, Reach, Char, Narrow, Widen at a plain buffer; Save and Restore, one excursion. -/
namespace Go.Proofs.YtnbccoelbfgmgaaGreatDoor
open Go.RowKit Go.Lib
set_option linter.unusedVariables false
set_option linter.unusedSimpArgs false
theorem subL_all (cs : List Nat) : subL cs 1 (cs.length + 1) = cs := by unfold subL; simp
/-- What Text answers. -/
def textV (T : Tx) (x y : Int) : ByteArray := if reachB T.S x y = true then encS (subL T.cs x.toNat y.toNat) else ⟨#[]⟩
section
variable {N : Nat} {w w' : World} {b mm : Nat} {F F' Fg Fl : Nat → Prop} {pr ev : Int} {T T' : Tx} {co nw co' nw' : Int} {B B' : Nat}
theorem PB.gap (h : PB N w b F T B) : ∃ g, GapR w T.S.t g T.cs := by obtain ⟨Fg, Fl, mm, pr, ev, co, nw, hx, hd⟩ := h; exact hx.gap.r
theorem PB.gap2 (h : PB N w b F T B) : ∃ g, GapR w T.S.t g T.cs ∧ b ≠ T.S.t ∧ b ≠ g := by
  obtain ⟨Fg, Fl, mm, pr, ev, co, nw, hx, hd⟩ := h
  obtain ⟨g', fv, Bf, st, en, hgx, hf⟩ := hx.gap
  exact ⟨g', hgx.r, fun e => hx.fg.1 (e ▸ hf _ (.inl rfl)), fun e => hx.fg.1 (e ▸ hf _ (.inr (.inl rfl)))⟩
set_option maxRecDepth 100000 in
set_option maxHeartbeats 2000000 in
theorem pText (h : PB N w b F T B) (x y : Int) : Calls Tryz.prog 43 #[pAt b, .int .i64 x, .int .i64 y] w fun r w' => r = .returned (.tuple #[.string (textV T x y), .int .i64 (delE T x y)]) ∧ Below w.heap.size w w' := by
  have HM := Lib.hid (ChkAt.made h.blk)
  have HV := Lib.hid (within_ok h.blk x y)
  obtain ⟨E, hE⟩ : ∃ E : Int, E = if reachB T.S x y = true then 0 else 3 := ⟨_, rfl⟩
  rw [← hE] at HV
  have hE' : delE T x y = E := hE.symm
  rw [hE']
  obtain ⟨V, hV⟩ : ∃ V, V = textV T x y := ⟨_, rfl⟩
  rw [← hV]
  have HS := Lib.hid h.sane
  have H := Lib.hid h
  have HE := Lib.hid hE
  have HVV := Lib.hid hV
  clear h hE hE' hV
  go_enter Tryz.func43, Tryz.ntmps43
  go_wp2_with fail
  refine HV.out.mono ?_
  rintro r w1 ⟨k1, k2, rfl, hb1, hc⟩
  have C1 := Lib.hid hc
  have B1 := Lib.hid hb1
  have M1 := Lib.hid (HM.out.up hb1)
  clear hc hb1 HV HM
  go_wp2_with fail
  have hb4 := below1 w1 (.cells #[(madeC b).val, (unlC k1 k2 E).val] 67)
  have hR3 := RSl.arr (enc := encK) (zs := [madeC b, unlC k1 k2 E]) (MapKept.heap_alloc w1 (.cells #[(madeC b).val, (unlC k1 k2 E).val] 67)).1 rfl
  have HF := first_any hR3 2 (by simp) (by
    intro c hc
    simp only [List.mem_cons, List.not_mem_nil, or_false] at hc
    rcases hc with rfl | rfl
    · exact M1.out.en
    · exact C1.out.en) (by
    intro i c w4 hi hz hb
    rcases i with _ | _ | i
    · cases hi; exact M1.out.run trivial w4 (up2 hb4 hb)
    · cases hi; exact C1.out.run trivial w4 (up2 hb4 hb)
    · simp at hi)
  have B2 := Lib.hid (up2 B1.out hb4)
  have hfe : firstE [madeC b, unlC k1 k2 E] = E := by rw [firstE2]; rfl
  rw [hfe] at HF
  have HF := Lib.hid HF
  clear hR3 hb4 M1 C1 B1 hfe
  refine HF.out.mono ?_
  rintro e w5 ⟨rfl, hb5⟩
  have B5 := Lib.hid (up2 B2.out hb5)
  clear hb5 B2 HF
  by_cases hq : reachB T.S x y = true
  · have hE := HE.out
    rw [if_pos hq] at hE
    have hv := HVV.out
    unfold textV at hv
    rw [if_pos hq] at hv
    have hq' := reach_iff.1 hq
    have g1 := HS.out.l1
    have g4 := HS.out.hn
    have P5 := Lib.hid (H.out.up B5.out)
    obtain ⟨g, hg⟩ := P5.out.gap
    obtain ⟨n, rfl⟩ : ∃ n : Nat, x = n := ⟨x.toNat, by omega⟩
    obtain ⟨m, rfl⟩ : ∃ m : Nat, y = m := ⟨y.toNat, by omega⟩
    simp only [Int.toNat_natCast] at hv
    have HSL := Lib.hid (gslice_ok hg n m (by omega) (by omega) (by omega))
    have q9 : w5.cell? ⟨b, 9, none⟩ = some (pAt T.S.t) := P5.out.blk.cell (j := 9) rfl
    rw [← hv] at HSL
    have HE0 := Lib.hid hE
    clear hq hq' g1 g4 hg hv
    rw [hE]
    clear hE
    generalize T.S.t = t at *
    go_wp2_with fail
    refine HSL.out.mono ?_
    rintro e w6 ⟨rfl, hb6⟩
    go_wp2_with fail
    go_ret2
    exact ⟨by rw [HE0.out]; rfl, up2 B5.out hb6⟩
  · have hE := HE.out
    rw [if_neg hq] at hE
    have hv := HVV.out
    unfold textV at hv
    rw [if_neg hq] at hv
    have HE0 := Lib.hid hE
    have HV0 := Lib.hid hv
    clear hq
    rw [hE]
    clear hE hv
    go_wp2_with fail
    go_ret2
    exact ⟨by rw [HE0.out, HV0.out]; rfl, B5.out⟩
theorem gAll {g t : Nat} {cs : List Nat} (h : GapR w t g cs) : Calls Tryz.prog 58 #[pAt t] w fun r w' => r = .returned (.string (encS cs)) ∧ Below w.heap.size w w' := by
  have hl := h.len
  have H := Lib.hid h
  have HS := Lib.hid (gsize h)
  have s1 : IntKind.i64.wrap ((cs.length : Int) + 1) = ((cs.length + 1 : Nat) : Int) := by rw [IntWalk.i64_in _ (by omega)]; omega
  clear h
  go_enter Tryz.func58, Tryz.ntmps58
  go_wp2_with fail
  refine HS.out.mono ?_
  rintro e w1 ⟨rfl, hb1⟩
  have HB := Lib.hid hb1
  have HSL := Lib.hid (gslice_ok (H.out.up hb1) 1 (cs.length + 1) (by omega) (by omega) (by omega))
  rw [subL_all] at HSL
  clear hb1
  go_wp2_with fail
  refine HSL.out.mono ?_
  rintro e w2 ⟨rfl, hb2⟩
  go_wp2_with fail
  go_ret
  exact ⟨rfl, up2 HB.out hb2⟩
theorem pAll (h : PB N w b F T B) : Calls Tryz.prog 24 #[pAt b] w fun r w' => r = .returned (.string (encS T.cs)) ∧ Below w.heap.size w w' := by
  obtain ⟨g, hg⟩ := h.gap
  have HN := Lib.hid (bnoneB h.blk)
  have q9 : w.cell? ⟨b, 9, none⟩ = some (pAt T.S.t) := h.blk.cell (j := 9) rfl
  have HA := Lib.hid (gAll hg)
  clear h hg
  generalize T.S.t = t at *
  go_enter Tryz.func24, Tryz.ntmps24
  go_wp2_with fail
  refine HN.out.mono ?_
  rintro e w1 ⟨rfl, rfl⟩
  go_wp2_with fail
  refine HA.out.mono ?_
  rintro e w1 ⟨rfl, hb⟩
  go_wp2_with fail
  go_ret
  exact ⟨rfl, hb⟩
end
end Go.Proofs.YtnbccoelbfgmgaaGreatDoor
/- A plain buffer in plain Lean: what an edit makes of it. -/
namespace Go.Proofs.YtnbccoelbfgmgaaGreatDoor
open Go.RowKit Go.Lib
set_option linter.unusedVariables false
set_option linter.unusedSimpArgs false
/-- All of the text is accessible; the buffer is not read-only. -/
structure Wide (T : Tx) : Prop where
  lo : T.S.lo = 1
  hi : T.S.hi = T.cs.length + 1
  ro : T.S.ro = false
theorem insN_zero {a x : Nat} {p : Bool} : insN a 0 x p = x := by unfold insN; split <;> omega
theorem putT_cs (T : Tx) (a : Nat) (s : List Nat) (bf : Bool) : (putT T a s bf).cs = insC T.cs a s := by
  unfold putT
  split
  · rename_i h
    have e : s = [] := List.eq_nil_of_length_eq_zero h
    subst e; unfold insC; simp
  · rfl
theorem putT_pt (T : Tx) (a : Nat) (s : List Nat) (bf : Bool) : (putT T a s bf).S.pt = insN a s.length T.S.pt bf := by
  unfold putT
  split
  · rename_i h; rw [h, insN_zero]
  · rfl
theorem delN_same {x p : Nat} : delN x x p = p := by unfold delN; (repeat' split) <;> omega
theorem delC_same (cs : List Nat) (x : Nat) : delC cs x x = cs := by unfold delC; simp
theorem takeT_cs (T : Tx) (x y : Nat) : (takeT T x y).cs = delC T.cs x y := by
  unfold takeT
  split
  · rename_i h; subst h; rw [delC_same]
  · rfl
theorem takeT_pt (T : Tx) (x y : Nat) : (takeT T x y).S.pt = delN x y T.S.pt := by
  unfold takeT
  split
  · rename_i h; subst h; rw [delN_same]
  · rfl
theorem Wide.put {T : Tx} (h : Wide T) {a : Nat} {s : List Nat} {bf : Bool} (h1 : 1 ≤ a) (h2 : a ≤ T.cs.length + 1) : Wide (putT T a s bf) := by
  have hl := h.lo; have hh := h.hi
  unfold putT
  split
  · exact h
  · refine ⟨?_, ?_, h.ro⟩
    · show insN a s.length T.S.lo false = 1
      unfold insN; rw [if_neg (by rintro (q | q); omega; exact absurd q.2 (by simp))]; exact hl
    · show insN a s.length T.S.hi true = (insC T.cs a s).length + 1
      rw [insC_len]
      unfold insN
      rw [if_pos (by rcases Nat.lt_or_ge a T.S.hi with q | q; exact .inl q; exact .inr ⟨by omega, rfl⟩)]; omega
theorem Wide.take {T : Tx} (h : Wide T) {x y : Nat} (h1 : 1 ≤ x) (h2 : x ≤ y) (h3 : y ≤ T.cs.length + 1) : Wide (takeT T x y) := by
  have hl := h.lo; have hh := h.hi
  unfold takeT
  split
  · exact h
  · rename_i hne
    refine ⟨?_, ?_, h.ro⟩
    · show delN x y T.S.lo = 1
      unfold delN; rw [if_neg (by omega), if_neg (by omega)]; exact hl
    · show delN x y T.S.hi = (delC T.cs x y).length + 1
      rw [delC_len h1 h2 h3]
      unfold delN; rw [if_pos (by omega)]; omega
theorem Wide.pt {T : Tx} (h : Wide T) (p : Nat) : Wide { T with S := { T.S with pt := p } } := ⟨h.lo, h.hi, h.ro⟩
theorem Wide.ins {T : Tx} (h : Wide T) {s : List Nat} {bf : Bool} (h1 : 1 ≤ T.S.pt) (h2 : T.S.pt ≤ T.cs.length + 1) : Wide (insT T s bf) := (h.put h1 h2).pt _
theorem Wide.rep {T : Tx} (h : Wide T) {x y : Nat} {s : List Nat} (h1 : 1 ≤ x) (h2 : x ≤ y) (h3 : y ≤ T.cs.length + 1) : Wide (repT T x y s) :=
  (h.take h1 h2 h3).put h1 (by rw [takeT_len h1 h2 h3]; omega)
/-- The three parts. -/
def head3 (T : Tx) (x : Nat) : ByteArray := encS (subL T.cs 1 x)
def tail3 (T : Tx) (y : Nat) : ByteArray := encS (subL T.cs y (T.cs.length + 1))
theorem subL_head (cs : List Nat) (x : Nat) : subL cs 1 x = cs.take (x - 1) := by unfold subL; simp
theorem subL_tail (cs : List Nat) {y : Nat} (h : 1 ≤ y) : subL cs y (cs.length + 1) = cs.drop (y - 1) := by
  unfold subL; rw [List.take_of_length_le (by simp; omega)]
theorem parts_put (T : Tx) {a : Nat} {s : ByteArray} {bf : Bool} (h1 : 1 ≤ a) (hv : (charsD s.data.toList).isSome = true) : head3 T a ++ s ++ tail3 T a = encS (putT T a (chrs s) bf).cs := by
  unfold head3 tail3
  rw [putT_cs, subL_head, subL_tail _ h1]
  conv => lhs; rw [← encS_chrs hv]
  rw [encS_append, encS_append]; rfl
theorem parts_ins (T : Tx) {s : ByteArray} {bf : Bool} (h1 : 1 ≤ T.S.pt) (hv : (charsD s.data.toList).isSome = true) : head3 T T.S.pt ++ s ++ tail3 T T.S.pt = encS (insT T (chrs s) bf).cs := parts_put T h1 hv
theorem parts_take (T : Tx) {x y : Nat} (h1 : 1 ≤ x) (hxy : x ≤ y) : head3 T x ++ ⟨#[]⟩ ++ tail3 T y = encS (takeT T x y).cs := by
  unfold head3 tail3
  rw [takeT_cs, subL_head, subL_tail _ (by omega), show (⟨#[]⟩ : ByteArray) = encS [] from rfl, encS_append, encS_append, List.append_nil]; rfl
theorem parts_rep (T : Tx) {x y : Nat} {s : ByteArray} (h1 : 1 ≤ x) (hxy : x ≤ y) (hy : y ≤ T.cs.length + 1) (hv : (charsD s.data.toList).isSome = true) : head3 T x ++ s ++ tail3 T y = encS (repT T x y (chrs s)).cs := by
  unfold head3 tail3 repT
  rw [putT_cs, takeT_cs, subL_head, subL_tail _ (by omega)]
  conv => lhs; rw [← encS_chrs hv]
  rw [encS_append, encS_append]
  congr 1
  unfold insC delC
  rw [List.take_append_of_le_length (by simp; omega), List.drop_append_of_le_length (by simp; omega), List.take_take]
  simp
theorem repT_pt (T : Tx) (x y : Nat) (s : List Nat) : (repT T x y s).S.pt = insN x s.length (delN x y T.S.pt) false := by unfold repT; rw [putT_pt, takeT_pt]
/-- What fits answers for short strings. -/
theorem fits_short {T : Tx} {s : ByteArray} (hl : T.cs.length ≤ 10000) (hs : s.size ≤ 60) {less : Int} (h0 : 0 ≤ less) : fitsE s T.cs.length less = if (charsD s.data.toList).isSome = true then 0 else 5 := by
  have := chrs_len s
  unfold fitsE
  rw [vld_chars]
  by_cases hv : (charsD s.data.toList).isSome = true
  · rw [if_pos hv, if_pos hv, rlenG_chars hv, if_neg (by omega)]
  · rw [if_neg hv, if_neg hv]
end Go.Proofs.YtnbccoelbfgmgaaGreatDoor
/- A plain buffer in plain Lean: undoing one replacement gives the text back. -/
namespace Go.Proofs.YtnbccoelbfgmgaaGreatDoor
open Go.RowKit Go.Lib
set_option linter.unusedVariables false
set_option linter.unusedSimpArgs false
/-- What a change that is undone makes of the text. -/
def revCs (cs : List Nat) (c : Chg) : List Nat := if c.k = 1 then delC cs c.a.toNat c.b.toNat else if c.k = 2 then insC cs c.a.toNat (chrs c.tx) else cs
theorem revT_cs (T : Tx) (c : Chg) : (revT T c).cs = revCs T.cs c := by
  unfold revT revCs
  split
  · exact takeT_cs _ _ _
  · split
    · exact putT_cs _ _ _ _
    · split <;> rfl
theorem revsT_cs : ∀ (T : Tx) (L : List Chg), (revsT T L).cs = L.foldl revCs T.cs
  | T, [] => rfl
  | T, c :: L => by
    show (revsT (revT T c) L).cs = _
    rw [revsT_cs, revT_cs]; rfl
def RevOkC (cs : List Nat) (c : Chg) : Prop :=
  (c.k = 1 ∧ 1 ≤ c.a ∧ c.a ≤ c.b ∧ c.b ≤ cs.length + 1) ∨ (c.k = 2 ∧ 1 ≤ c.a ∧ c.a ≤ cs.length + 1 ∧ (charsD c.tx.data.toList).isSome = true ∧ c.tx.size ≤ 262144 ∧ cs.length + (chrs c.tx).length ≤ 65536) ∨ (c.k = 4 ∧ 0 ≤ c.a) ∨ c.k = 6
def RevsOkC : List Nat → List Chg → Prop
  | _, [] => True
  | cs, c :: L => RevOkC cs c ∧ RevsOkC (revCs cs c) L
theorem revs_of : ∀ (T : Tx) (L : List Chg), RevsOkC T.cs L → RevsOk T L
  | T, [], _ => trivial
  | T, c :: L, h => ⟨h.1, revs_of (revT T c) L (by rw [revT_cs]; exact h.2)⟩
theorem mergeB_no {O : List Chg} {c : Chg} (h : ¬ c.k = 1 ∨ ¬ (O.getLastD chg0).k = 1) : mergeB O c = false := by
  unfold mergeB
  cases hL : O.getLast? with
  | none => rfl
  | some x =>
    have hx : O.getLastD chg0 = x := by rw [List.getLastD_eq_getLast?, hL]; rfl
    rcases h with h | h
    · simp [h]
    · rw [hx] at h; simp [h]
theorem logAdd_no {O : List Chg} {c : Chg} (h : ¬ c.k = 1 ∨ ¬ (O.getLastD chg0).k = 1) : logAdd O c = O ++ [c] := by
  unfold logAdd; rw [mergeB_no h]; simp
/-- What the first note of a group lays before it. -/
def notePre (S : BS) : List Chg := (if S.tick = S.clean then [cleanC] else []) ++ [pointC S.pt]
theorem noteO_first {S : BS} {c : Chg} (he : S.empty = true) : noteO S [] c = notePre S ++ [c] := by
  unfold noteO notePre
  rw [if_pos he]
  have e0 : logAdd ([] : List Chg) cleanC = [cleanC] := logAdd_no (.inl (by decide))
  split
  · rename_i h
    rw [e0, logAdd_no (c := pointC S.pt) (.inl (by simp)), logAdd_no (c := c) (.inr (by simp))]
  · rename_i h
    rw [logAdd_no (c := pointC S.pt) (.inl (by simp)), logAdd_no (c := c) (.inr (by simp))]
theorem noteO_next {S : BS} {O : List Chg} {c : Chg} (he : S.empty = false) (h : ¬ c.k = 1 ∨ ¬ (O.getLastD chg0).k = 1) : noteO S O c = O ++ [c] := by
  unfold noteO; rw [if_neg (by rw [he]; simp)]; exact logAdd_no h
theorem npre_ok (S : BS) (cs : List Nat) : RevsOkC cs (notePre S).reverse ∧ (notePre S).reverse.foldl revCs cs = cs ∧ revsC (notePre S).reverse ≤ 8 ∧ (notePre S).length ≤ 2 := by
  unfold notePre
  split
  · refine ⟨⟨.inr (.inr (.inl ⟨rfl, by simp⟩)), .inr (.inr (.inr rfl)), trivial⟩, rfl, by simp [revsC, revC], by simp⟩
  · refine ⟨⟨.inr (.inr (.inl ⟨rfl, by simp⟩)), trivial⟩, rfl, by simp [revsC, revC], by simp⟩
theorem del_ins (cs s : List Nat) {x : Nat} (h1 : 1 ≤ x) (h2 : x ≤ cs.length + 1) : delC (insC cs x s) x (x + s.length) = cs := by
  have e1 : (cs.take (x - 1)).length = x - 1 := by simp; omega
  unfold delC insC
  rw [List.append_assoc, List.take_append_of_le_length (by omega), List.take_take, Nat.min_self]
  rw [show x + s.length - 1 = (x - 1) + s.length by omega, ← List.drop_drop, List.drop_append_of_le_length (by omega), List.drop_take_self]
  rw [List.nil_append, List.drop_left, List.take_append_drop]
theorem ins_del (cs : List Nat) {x y : Nat} (h1 : 1 ≤ x) (hxy : x ≤ y) (hy : y ≤ cs.length + 1) : insC (delC cs x y) x (subL cs x y) = cs := by
  have e1 : (cs.take (x - 1)).length = x - 1 := by simp; omega
  unfold insC delC subL
  rw [List.take_append_of_le_length (by omega), List.take_take, Nat.min_self, List.drop_append_of_le_length (by omega), List.drop_take_self, List.nil_append]
  have e2 : cs.drop (y - 1) = (cs.drop (x - 1)).drop (y - x) := by rw [List.drop_drop]; congr 1; omega
  rw [e2, List.append_assoc, List.take_append_drop, List.take_append_drop]
theorem subL_len {cs : List Nat} {x y : Nat} (h1 : 1 ≤ x) (hy : y ≤ cs.length + 1) : (subL cs x y).length = y - x := by unfold subL; simp; omega
/-- Undoing one replacement. -/
theorem undo_rep {T : Tx} {x y : Nat} {s : List Nat} (he : T.S.empty = true) (hO : T.O = []) (h1 : 1 ≤ x) (hxy : x ≤ y) (hy : y ≤ T.cs.length + 1) (hcn : ∀ c ∈ T.cs, isN c) (hlen : T.cs.length ≤ 60000) (hs : s.length ≤ 5000) (hne : ¬ (x = y ∧ s = [])) :
    ∃ g, logShut (repT T x y s).G (repT T x y s).O = T.G ++ [g] ∧ g.length ≤ 4 ∧ RevsOkC (repT T x y s).cs g.reverse ∧ g.reverse.foldl revCs (repT T x y s).cs = T.cs ∧ revsC g.reverse ≤ s.length + 20 := by
  obtain ⟨p1, p2, p3, p4⟩ := npre_ok T.S T.cs
  have hsub := chrs_encS (subL_isN hcn x y)
  have hsz := encS_le (subL T.cs x y)
  have hsl := subL_len (cs := T.cs) h1 hy
  have shut1 : ∀ (G : List (List Chg)) (O : List Chg), O ≠ [] → logShut G O = G ++ [O] := fun G O h => by unfold logShut; rw [if_neg h]
  have rc : ∀ (c : Chg) (L : List Chg), revsC (c :: L) = revC c + revsC L := fun c L => by unfold revsC; simp
  by_cases hs0 : s = []
  · subst hs0
    have hlt : ¬ x = y := fun e => hne ⟨e, rfl⟩
    have hT : repT T x y [] = { T with S := takeS T.S x y, cs := delC T.cs x y, O := noteO T.S T.O (delChg x (encS (subL T.cs x y))) } := by
      unfold repT putT takeT; simp [hlt]
    rw [hT]
    dsimp only
    rw [hO, noteO_first he]
    refine ⟨_, shut1 _ _ (by simp), by simp; omega, ?_, ?_, ?_⟩
    · rw [List.reverse_append]
      refine ⟨.inr (.inl ⟨rfl, by simp; omega, by rw [delC_len h1 hxy hy]; simp; omega, hsub.2, by dsimp only; omega, ?_⟩), ?_⟩
      · rw [delC_len h1 hxy hy, hsub.1, hsl]; omega
      · show RevsOkC (insC (delC T.cs x y) ((x : Int)).toNat (chrs (encS (subL T.cs x y)))) _
        rw [Int.toNat_natCast, hsub.1, ins_del _ h1 hxy hy]; exact p1
    · rw [List.reverse_append, List.foldl_append]
      show List.foldl revCs (insC (delC T.cs x y) ((x : Int)).toNat (chrs (encS (subL T.cs x y)))) _ = _
      rw [Int.toNat_natCast, hsub.1, ins_del _ h1 hxy hy]; exact p2
    · rw [List.reverse_append, show [delChg x (encS (subL T.cs x y))].reverse ++ (notePre T.S).reverse = delChg x (encS (subL T.cs x y)) :: (notePre T.S).reverse from rfl, rc]
      have : revC (delChg x (encS (subL T.cs x y))) = 4 := rfl
      omega
  · have hsp : ¬ s.length = 0 := fun e => hs0 (List.eq_nil_of_length_eq_zero e)
    have hi : ((x + s.length : Nat) : Int).toNat = x + s.length := Int.toNat_natCast _
    by_cases hlt : x = y
    · subst hlt
      have hT : repT T x x s = { T with S := putS T.S x s.length false, cs := insC T.cs x s, O := noteO T.S T.O (insChg x s.length) } := by
        unfold repT putT takeT; simp [hs0]
      rw [hT]
      dsimp only
      rw [hO, noteO_first he]
      refine ⟨_, shut1 _ _ (by simp), by simp; omega, ?_, ?_, ?_⟩
      · rw [List.reverse_append]
        refine ⟨.inl ⟨rfl, by simp; omega, by simp; omega, by rw [insC_len]; simp; omega⟩, ?_⟩
        show RevsOkC (delC (insC T.cs x s) ((x : Int)).toNat ((x + s.length : Nat) : Int).toNat) _
        rw [Int.toNat_natCast, hi, del_ins _ _ h1 hy]; exact p1
      · rw [List.reverse_append, List.foldl_append]
        show List.foldl revCs (delC (insC T.cs x s) ((x : Int)).toNat ((x + s.length : Nat) : Int).toNat) _ = _
        rw [Int.toNat_natCast, hi, del_ins _ _ h1 hy]; exact p2
      · rw [List.reverse_append, show [insChg x s.length].reverse ++ (notePre T.S).reverse = insChg x s.length :: (notePre T.S).reverse from rfl, rc]
        have : revC (insChg x s.length) = s.length + 4 := by
          show ((x + s.length : Nat) : Int).toNat - ((x : Nat) : Int).toNat + 4 = _
          rw [hi, Int.toNat_natCast]; omega
        omega
    · have hT : repT T x y s = { T with S := putS (takeS T.S x y) x s.length false, cs := insC (delC T.cs x y) x s, O := noteO (takeS T.S x y) (noteO T.S T.O (delChg x (encS (subL T.cs x y)))) (insChg x s.length) } := by
        unfold repT putT takeT; simp [hs0, hlt]
      rw [hT]
      dsimp only
      have hdl := delC_len h1 hxy hy
      rw [hO, noteO_first he, noteO_next (S := takeS T.S x y) rfl (.inr (by simp))]
      refine ⟨_, shut1 _ _ (by simp), by simp; omega, ?_, ?_, ?_⟩
      · rw [List.reverse_append, List.reverse_append]
        refine ⟨.inl ⟨rfl, by simp; omega, by simp; omega, by rw [insC_len, hdl]; simp; omega⟩, ?_⟩
        show RevsOkC (delC (insC (delC T.cs x y) x s) ((x : Int)).toNat ((x + s.length : Nat) : Int).toNat) _
        rw [Int.toNat_natCast, hi, del_ins _ _ h1 (by omega)]
        refine ⟨.inr (.inl ⟨rfl, by simp; omega, by rw [hdl]; simp; omega, hsub.2, by dsimp only; omega, ?_⟩), ?_⟩
        · rw [hdl, hsub.1, hsl]; omega
        · show RevsOkC (insC (delC T.cs x y) ((x : Int)).toNat (chrs (encS (subL T.cs x y)))) _
          rw [Int.toNat_natCast, hsub.1, ins_del _ h1 hxy hy]; exact p1
      · rw [List.reverse_append, List.reverse_append, List.foldl_append]
        show List.foldl revCs (delC (insC (delC T.cs x y) x s) ((x : Int)).toNat ((x + s.length : Nat) : Int).toNat) ([delChg x (encS (subL T.cs x y))].reverse ++ (notePre T.S).reverse) = _
        rw [Int.toNat_natCast, hi, del_ins _ _ h1 (by omega), List.foldl_append]
        show List.foldl revCs (insC (delC T.cs x y) ((x : Int)).toNat (chrs (encS (subL T.cs x y)))) _ = _
        rw [Int.toNat_natCast, hsub.1, ins_del _ h1 hxy hy]; exact p2
      · rw [List.reverse_append, List.reverse_append, show [insChg x s.length].reverse ++ ([delChg x (encS (subL T.cs x y))].reverse ++ (notePre T.S).reverse) = insChg x s.length :: delChg x (encS (subL T.cs x y)) :: (notePre T.S).reverse from rfl, rc, rc]
        have e1 : revC (insChg x s.length) = s.length + 4 := by
          show ((x + s.length : Nat) : Int).toNat - ((x : Nat) : Int).toNat + 4 = _
          rw [hi, Int.toNat_natCast]; omega
        have e2 : revC (delChg x (encS (subL T.cs x y))) = 4 := rfl
        omega
end Go.Proofs.YtnbccoelbfgmgaaGreatDoor
/- A plain buffer in plain Lean: undoing a group of many edits gives the text back. -/
namespace Go.Proofs.YtnbccoelbfgmgaaGreatDoor
open Go.RowKit Go.Lib
set_option linter.unusedVariables false
set_option linter.unusedSimpArgs false
/-- The open group undone gives base; undoing it costs K at most. -/
structure Grp (base : List Nat) (T : Tx) (K : Nat) : Prop where
  ok : RevsOkC T.cs T.O.reverse
  bk : T.O.reverse.foldl revCs T.cs = base
  e : T.S.empty = true → T.O = []
  cn : ∀ c ∈ T.cs, isN c
  co : revsC T.O.reverse ≤ K
theorem Grp.start {T : Tx} (hO : T.O = []) (hcn : ∀ c ∈ T.cs, isN c) : Grp T.cs T 0 := ⟨by rw [hO]; trivial, by rw [hO]; rfl, fun _ => hO, hcn, by rw [hO]; exact Nat.le_refl _⟩
theorem revsC_cons (c : Chg) (L : List Chg) : revsC (c :: L) = revC c + revsC L := by unfold revsC; simp
theorem revCs_ins (cs : List Nat) (a n : Nat) : revCs cs (insChg a n) = delC cs a (a + n) := by
  show delC cs ((a : Int)).toNat ((a + n : Nat) : Int).toNat = _
  rw [Int.toNat_natCast, Int.toNat_natCast]
theorem revCs_del (cs : List Nat) (x : Nat) (tx : ByteArray) : revCs cs (delChg x tx) = insC cs x (chrs tx) := by
  show insC cs ((x : Int)).toNat (chrs tx) = _
  rw [Int.toNat_natCast]
theorem revOk_ins {cs : List Nat} {a n : Nat} (h1 : 1 ≤ a) (h2 : a + n ≤ cs.length + 1) : RevOkC cs (insChg a n) := .inl ⟨rfl, by simp; omega, by simp; omega, by simp; omega⟩
theorem revC_ins (a n : Nat) : revC (insChg a n) = n + 4 := by
  show ((a + n : Nat) : Int).toNat - ((a : Nat) : Int).toNat + 4 = _
  rw [Int.toNat_natCast, Int.toNat_natCast]; omega
/-- A part of an inserted text taken out: behind an insertion at its end. -/
theorem del_join (cs s : List Nat) {p a : Nat} (h1 : 1 ≤ p) (hpa : p ≤ a) (ha : a ≤ cs.length + 1) : delC (insC cs a s) p (a + s.length) = delC cs p a := by
  unfold delC insC
  have e1 : (cs.take (a - 1)).length = a - 1 := by simp; omega
  rw [List.append_assoc, List.take_append_of_le_length (by omega), List.take_take, Nat.min_eq_left (by omega)]
  rw [show a + s.length - 1 = (a - 1) + s.length by omega, ← List.drop_drop, List.drop_append_of_le_length (by omega), List.drop_take_self, List.nil_append, List.drop_left]
theorem insC_in {cs s : List Nat} {a : Nat} (h1 : ∀ c ∈ cs, isN c) (h2 : ∀ c ∈ s, isN c) : ∀ c ∈ insC cs a s, isN c := by
  intro c hc
  unfold insC at hc
  simp only [List.mem_append] at hc
  rcases hc with (hc | hc) | hc
  · exact h1 c (List.mem_of_mem_take hc)
  · exact h2 c hc
  · exact h1 c (List.mem_of_mem_drop hc)
theorem delC_in {cs : List Nat} {x y : Nat} (h1 : ∀ c ∈ cs, isN c) : ∀ c ∈ delC cs x y, isN c := by
  intro c hc
  unfold delC at hc
  rw [List.mem_append] at hc
  rcases hc with hc | hc
  · exact h1 c (List.mem_of_mem_take hc)
  · exact h1 c (List.mem_of_mem_drop hc)
theorem putT_empty {T : Tx} {a : Nat} {s : List Nat} {bf : Bool} (hs : ¬ s.length = 0) : (putT T a s bf).S.empty = false := by
  unfold putT; rw [if_neg hs]; rfl
theorem takeT_empty {T : Tx} {x y : Nat} (hs : ¬ x = y) : (takeT T x y).S.empty = false := by
  unfold takeT; rw [if_neg hs]; rfl
section
variable {base : List Nat} {T : Tx} {K : Nat}
theorem Grp.mono {K' : Nat} (h : Grp base T K) (hK : K ≤ K') : Grp base T K' := ⟨h.ok, h.bk, h.e, h.cn, Nat.le_trans h.co hK⟩
theorem Grp.put (h : Grp base T K) (a : Nat) (s : List Nat) (bf : Bool) (h1 : 1 ≤ a) (h2 : a ≤ T.cs.length + 1) (hs : ∀ c ∈ s, isN c) : Grp base (putT T a s bf) (K + s.length + 12) := by
  by_cases h0 : s.length = 0
  · have : putT T a s bf = T := by unfold putT; rw [if_pos h0]
    rw [this]; exact h.mono (by omega)
  · have hO : (putT T a s bf).O = noteO T.S T.O (insChg a s.length) := by unfold putT; rw [if_neg h0]
    have hcs := putT_cs T a s bf
    have hin : (insC T.cs a s).length = T.cs.length + s.length := insC_len
    by_cases he : T.S.empty = true
    · have hOe := h.e he
      have hb := h.bk
      rw [hOe] at hb
      have hb' : T.cs = base := hb
      obtain ⟨p1, p2, p3, p4⟩ := npre_ok T.S T.cs
      rw [hOe, noteO_first he] at hO
      refine ⟨?_, ?_, fun e => (by rw [putT_empty h0] at e; cases e), by rw [hcs]; exact insC_in h.cn hs, ?_⟩
      · rw [hO, hcs, List.reverse_append]
        refine ⟨revOk_ins h1 (by omega), ?_⟩
        rw [revCs_ins, del_ins _ _ h1 h2]; exact p1
      · rw [hO, hcs, List.reverse_append]
        show List.foldl revCs (revCs (insC T.cs a s) (insChg a s.length)) (notePre T.S).reverse = _
        rw [revCs_ins, del_ins _ _ h1 h2, p2, hb']
      · rw [hO, List.reverse_append, show [insChg a s.length].reverse ++ (notePre T.S).reverse = insChg a s.length :: (notePre T.S).reverse from rfl, revsC_cons, revC_ins]; omega
    · have hO2 : (putT T a s bf).O = logAdd T.O (insChg a s.length) := by rw [hO]; unfold noteO; rw [if_neg he]
      refine ⟨?_, ?_, fun e => (by rw [putT_empty h0] at e; cases e), by rw [hcs]; exact insC_in h.cn hs, ?_⟩
      all_goals rw [hO2]
      all_goals unfold logAdd
      all_goals cases hm : mergeB T.O (insChg a s.length) with
        | false =>
          rw [if_neg (by simp), List.reverse_append]
          first
            | (rw [hcs]; refine ⟨revOk_ins h1 (by omega), ?_⟩; rw [revCs_ins, del_ins _ _ h1 h2]; exact h.ok)
            | (rw [hcs]; show List.foldl revCs (revCs (insC T.cs a s) (insChg a s.length)) T.O.reverse = _; rw [revCs_ins, del_ins _ _ h1 h2]; exact h.bk)
            | (rw [show [insChg a s.length].reverse ++ T.O.reverse = insChg a s.length :: T.O.reverse from rfl, revsC_cons, revC_ins]; have := h.co; omega)
        | true =>
          obtain ⟨O0, x, hx⟩ : ∃ O0 x, T.O = O0 ++ [x] := by
            cases hl : T.O.getLast? with
            | none => unfold mergeB at hm; rw [hl] at hm; simp at hm
            | some x => exact ⟨T.O.dropLast, x, by
                have hne : T.O ≠ [] := fun e => by rw [e] at hl; simp at hl
                have := List.dropLast_concat_getLast hne
                rw [List.getLast?_eq_some_getLast hne] at hl
                cases hl
                exact this.symm⟩
          have hm2 : x.k = 1 ∧ x.b = (a : Int) := by
            unfold mergeB at hm
            rw [hx, List.getLast?_concat] at hm
            simp only [decide_eq_true_eq] at hm
            exact ⟨hm.2.1, hm.2.2⟩
          have hok := h.ok
          have hbk := h.bk
          have hco := h.co
          rw [hx, List.reverse_append] at hok hbk hco
          have hok1 : RevOkC T.cs x := hok.1
          have hok2 : RevsOkC (revCs T.cs x) O0.reverse := hok.2
          have hbk2 : List.foldl revCs (revCs T.cs x) O0.reverse = base := hbk
          rw [show [x].reverse ++ O0.reverse = x :: O0.reverse from rfl, revsC_cons] at hco
          have hxa : 1 ≤ x.a ∧ x.a ≤ (a : Int) := by
            rcases hok1 with ⟨_, g1, g2, _⟩ | ⟨g, _⟩ | ⟨g, _⟩ | g
            · exact ⟨g1, by rw [← hm2.2]; exact g2⟩
            · rw [hm2.1] at g; exact absurd g (by decide)
            · rw [hm2.1] at g; exact absurd g (by decide)
            · rw [hm2.1] at g; exact absurd g (by decide)
          obtain ⟨p, hp⟩ : ∃ p : Nat, x.a = (p : Int) := ⟨x.a.toNat, by omega⟩
          have hrx : revCs T.cs x = delC T.cs p a := by
            unfold revCs
            rw [if_pos hm2.1, hp, hm2.2, Int.toNat_natCast, Int.toNat_natCast]
          have hbI : (insChg a s.length).b = ((a + s.length : Nat) : Int) := rfl
          have hry : revCs (insC T.cs a s) { x with b := (insChg a s.length).b } = delC T.cs p a := by
            unfold revCs
            rw [if_pos hm2.1]
            show delC (insC T.cs a s) x.a.toNat ((a + s.length : Nat) : Int).toNat = _
            rw [hp, Int.toNat_natCast, Int.toNat_natCast]
            exact del_join _ _ (by omega) (by omega) h2
          have hlast : (T.O.getLastD chg0) = x := by rw [hx]; simp
          have hdrop : T.O.dropLast = O0 := by rw [hx]; simp
          rw [if_pos rfl, hlast, hdrop, List.reverse_append]
          have hryC : revC { x with b := (insChg a s.length).b } ≤ revC x + s.length := by
            unfold revC
            rw [if_pos hm2.1, if_pos hm2.1, hm2.2]
            show ((a + s.length : Nat) : Int).toNat - x.a.toNat + 4 ≤ _
            rw [hp, Int.toNat_natCast, Int.toNat_natCast, Int.toNat_natCast]; omega
          first
            | (rw [hcs]
               refine ⟨.inl ⟨hm2.1, by show 1 ≤ x.a; omega, by show x.a ≤ ((a + s.length : Nat) : Int); omega, by show ((a + s.length : Nat) : Int) ≤ _; omega⟩, ?_⟩
               rw [hry, ← hrx]; exact hok2)
            | (rw [hcs]
               show List.foldl revCs (revCs (insC T.cs a s) { x with b := (insChg a s.length).b }) O0.reverse = _
               rw [hry, ← hrx]; exact hbk2)
            | (rw [show [({ x with b := (insChg a s.length).b } : Chg)].reverse ++ O0.reverse = { x with b := (insChg a s.length).b } :: O0.reverse from rfl, revsC_cons]; omega)
theorem Grp.take (h : Grp base T K) (x y : Nat) (h1 : 1 ≤ x) (hxy : x ≤ y) (hy : y ≤ T.cs.length + 1) (hlen : T.cs.length ≤ 60000) : Grp base (takeT T x y) (K + 12) := by
  by_cases h0 : x = y
  · have : takeT T x y = T := by unfold takeT; rw [if_pos h0]
    rw [this]; exact h.mono (by omega)
  · have hO : (takeT T x y).O = noteO T.S T.O (delChg x (encS (subL T.cs x y))) := by unfold takeT; rw [if_neg h0]
    have hcs := takeT_cs T x y
    have hsub := chrs_encS (subL_isN h.cn x y)
    have hsz := encS_le (subL T.cs x y)
    have hsl := subL_len (cs := T.cs) h1 hy
    have hdl := delC_len h1 hxy hy
    have hrev : revCs (delC T.cs x y) (delChg x (encS (subL T.cs x y))) = T.cs := by rw [revCs_del, hsub.1, ins_del _ h1 hxy hy]
    have hrok : RevOkC (delC T.cs x y) (delChg x (encS (subL T.cs x y))) := .inr (.inl ⟨rfl, by simp; omega, by rw [hdl]; simp; omega, hsub.2, by dsimp only; omega, by rw [hdl]; dsimp only; rw [hsub.1, hsl]; omega⟩)
    have hrc : revC (delChg x (encS (subL T.cs x y))) = 4 := rfl
    by_cases he : T.S.empty = true
    · have hOe := h.e he
      have hb := h.bk
      rw [hOe] at hb
      have hb' : T.cs = base := hb
      obtain ⟨p1, p2, p3, p4⟩ := npre_ok T.S T.cs
      rw [hOe, noteO_first he] at hO
      refine ⟨?_, ?_, fun e => (by rw [takeT_empty h0] at e; cases e), by rw [hcs]; exact delC_in h.cn, ?_⟩
      · rw [hO, hcs, List.reverse_append]
        refine ⟨hrok, ?_⟩
        rw [hrev]; exact p1
      · rw [hO, hcs, List.reverse_append]
        show List.foldl revCs (revCs (delC T.cs x y) (delChg x (encS (subL T.cs x y)))) (notePre T.S).reverse = _
        rw [hrev, p2, hb']
      · rw [hO, List.reverse_append, show [delChg x (encS (subL T.cs x y))].reverse ++ (notePre T.S).reverse = delChg x (encS (subL T.cs x y)) :: (notePre T.S).reverse from rfl, revsC_cons, hrc]; omega
    · have hO2 : (takeT T x y).O = T.O ++ [delChg x (encS (subL T.cs x y))] := by rw [hO]; exact noteO_next (by simpa using he) (.inl (show ¬ (2 : Int) = 1 by decide))
      refine ⟨?_, ?_, fun e => (by rw [takeT_empty h0] at e; cases e), by rw [hcs]; exact delC_in h.cn, ?_⟩
      · rw [hO2, hcs, List.reverse_append]
        refine ⟨hrok, ?_⟩
        rw [hrev]; exact h.ok
      · rw [hO2, hcs, List.reverse_append]
        show List.foldl revCs (revCs (delC T.cs x y) (delChg x (encS (subL T.cs x y)))) T.O.reverse = _
        rw [hrev]; exact h.bk
      · rw [hO2, List.reverse_append, show [delChg x (encS (subL T.cs x y))].reverse ++ T.O.reverse = delChg x (encS (subL T.cs x y)) :: T.O.reverse from rfl, revsC_cons, hrc]; have := h.co; omega
end
end Go.Proofs.YtnbccoelbfgmgaaGreatDoor
