import Derived.Test.YtklaeecegkpgmaaGreatDoorFsM
import Derived.Test.YtklaeecegkpgmaaGreatDoorJl
/- Package undo: close and Boundary behind the first insertion. -/
namespace Go.Proofs.YtklaeecegkpgmaaGreatDoor
open Go.RowKit
set_option linter.unusedVariables false
set_option linter.unusedSimpArgs false
/-- A slice of changes as an element. -/
abbrev encG (x : Option Addr × Nat × Nat) : List Value := [.slice x.1 x.2.1 x.2.2]
theorem eltG : Elt encG 172 173 1 24 (.slice none 0 0) := ⟨Tryz.underlying172, by kernel_rfl, rfl, by omega, fun _ => rfl, fun x u hu => by simp at hu; rcases hu with rfl; rfl⟩
section
variable {w w' : World}
set_option maxRecDepth 100000 in
set_option maxHeartbeats 2000000 in
theorem uclose1 {l cap L : Nat} {A : Option Addr} (hL : L = 3) (h : Blk w l 175 (lgC (.slice none 0 0) (.slice A L cap) 3 3)) :
    Calls Tryz.prog 137 #[pAt l] w fun r w' => r = .returned (.tuple #[]) ∧ Only (fun k => k = l) w w' := by
  have hl := h.lt
  have C1 : ∀ x : UpW w.heap.size w, x.w.cell? ⟨l, 1, none⟩ = some (.slice none 0 0) := fun x => (h.up x.up).cell (j := 1) rfl
  have C2 : ∀ x : UpW w.heap.size w, x.w.cell? ⟨l, 2, none⟩ = some (.slice A L cap) := fun x => (h.up x.up).cell (j := 2) rfl
  have c2 := h.cell (j := 2) rfl
  have d0 : (0 < L) = True := by simp; omega
  clear hL
  have H := Lib.hid h
  clear h
  go_enter Tryz.func137, Tryz.ntmps137
  go_wp2_with fail
  clear c2
  obtain ⟨v', w3, happ, hown3, hb3, ho3, hblk3⟩ := append_elem eltG (B := w.heap.size) (w := w.drew) (ROwn.nil _ _ : ROwn encG 173 1 w.heap.size w.drew (.slice none 0 0) []) (Nat.le_refl _) (A, L, cap) (by simp) (by omega)
  have hb3' : Below w.heap.size w w3 := ((Below.refl w.heap.size w).drew).trans hb3
  obtain ⟨A3, cap3, rfl, _, _, _⟩ := hown3.shape eltG
  have HP := Lib.hid happ
  clear happ hown3 hb3 ho3 hblk3
  refine wp_region_mixS (fun k => k = l) [15, 18, 21] (.one [(0, true), (1, false), (2, false), (3, true), (4, true), (5, true), (6, true), (7, true), (8, true), (9, true), (10, true)] 11 (.one [] 12 (.one [(13, false), (14, true)] 15 (.one [(16, false), (17, false)] 18 (.one [(19, false), (20, false)] 21 (.done [])))))) (by kernel_rfl) (fun c d v a w h => by cases d <;> exact h) (by kernel_rfl) ?_
  simp only [wpMixS, wpQ2, pk_nil, pk_cons, pushAt_zero, pushAt_succ, List.contains_cons, List.contains_nil, Bool.false_or, Bool.or_false, Bool.true_or, Bool.or_true, Nat.reduceBEq, Nat.reduceEqDiff]
  repeat (first | go_big_quiet_step (fail) | refine wpQuiet_nil ?_)
  clear C1 C2
  go_wp2_with fail
  refine thenQ_normal ⟨⟨⟨_, (Below.refl _ w).drew.alloc (Nat.le_refl _) _⟩, rfl⟩, ?_⟩
  refine wpList_app_run rfl _ _ _ rfl rfl rfl HP.out ?_
  go_wp2_with fail
  refine thenQ_normal ⟨⟨⟨_, hb3'⟩, rfl⟩, ?_⟩
  repeat (first | go_big_quiet_step (fail) | refine wpQuiet_nil ?_)
  have h3 := H.out.up hb3'
  have ho : Only (fun k => k = l) w w3 := Only.of_below hb3'
  have k1 := h3.cell (j := 1) rfl
  have k2 := h3.cell (j := 2) rfl
  have k5 := h3.cell (j := 5) rfl
  have f1 := h3.fz 1
  have f2 := h3.fz 2
  have f5 := h3.fz 5
  have hs0 : Blk (((w3.setCell ⟨l, 1, none⟩ (.slice A3 1 cap3)).setCell ⟨l, 2, none⟩ (.slice none 0 0)).setCell ⟨l, 5, none⟩ (.int .i64 0)) l 175 (lgC (.slice A3 1 cap3) (.slice none 0 0) 3 0) :=
    ((h3.set (j := 1) (by simp) (.slice A3 1 cap3)).set (j := 2) (by simp) (.slice none 0 0)).set (j := 5) (by simp) (.int .i64 0)
  have HS := Lib.hid hs0
  clear hs0 h3
  go_wp2_with fail
  refine thenQ_normal ⟨⟨⟨_, ho.setCell (p := ⟨l, 1, none⟩) rfl _⟩, rfl⟩, ?_⟩
  repeat (first | go_big_quiet_step (fail) | refine wpQuiet_nil ?_)
  go_wp2_with fail
  refine thenQ_normal ⟨⟨⟨_, (ho.setCell (p := ⟨l, 1, none⟩) rfl _).setCell (p := ⟨l, 2, none⟩) rfl _⟩, rfl⟩, ?_⟩
  repeat (first | go_big_quiet_step (fail) | refine wpQuiet_nil ?_)
  go_wp2_with fail
  refine thenQ_normal ⟨⟨⟨_, ((ho.setCell (p := ⟨l, 1, none⟩) rfl _).setCell (p := ⟨l, 2, none⟩) rfl _).setCell (p := ⟨l, 5, none⟩) rfl _⟩, rfl⟩, ?_⟩
  have HO := Lib.hid (((ho.setCell (p := ⟨l, 1, none⟩) rfl (.slice A3 1 cap3)).setCell (p := ⟨l, 2, none⟩) rfl (.slice none 0 0)).setCell (p := ⟨l, 5, none⟩) rfl (.int .i64 0))
  clear k1 k2 k5 f1 f2 f5 ho HP H hb3'
  generalize ((w3.setCell ⟨l, 1, none⟩ (.slice A3 1 cap3)).setCell ⟨l, 2, none⟩ (.slice none 0 0)).setCell ⟨l, 5, none⟩ (.int .i64 0) = W at *
  have c0 := HS.out.cell (j := 0) rfl
  have c4 := HS.out.cell (j := 4) rfl
  go_wp2_with fail
  go_loopw [3] (fun _ wr => W = wr) (fun _ _ => 0)
  case atStart => rfl
  case round =>
    subst hrel
    go_wp2_with fail
    go_region
    go_wp2_with fail
    go_end0
    exact ⟨rfl, HO.out.drew⟩
set_option maxRecDepth 100000 in
set_option maxHeartbeats 2000000 in
theorem uclose0 {l : Nat} (h : Blk w l 175 (lgC (.slice none 0 0) (.slice none 0 0) 0 0)) :
    Calls Tryz.prog 137 #[pAt l] w fun r w' => r = .returned (.tuple #[]) ∧ Only (fun k => k = l) w w' := by
  have c0 := h.cell (j := 0) rfl
  have c2 := h.cell (j := 2) rfl
  have c4 := h.cell (j := 4) rfl
  clear h
  go_enter Tryz.func137, Tryz.ntmps137
  go_wp2_with fail
  go_loopw [3] (fun _ wr => w = wr) (fun _ _ => 0)
  case atStart => rfl
  case round =>
    subst hrel
    go_wp2_with fail
    go_region
    go_wp2_with fail
    go_end0
    exact ⟨rfl, (Only.refl _ w).drew⟩
/-- The log of a new buffer, before or behind its first change. -/
def LogF (w : World) (l : Nat) : Prop := Blk w l 175 (lgC (.slice none 0 0) (.slice none 0 0) 0 0) ∨ ∃ A cap, Blk w l 175 (lgC (.slice none 0 0) (.slice A 3 cap) 3 3)
theorem uclose_ok {l : Nat} (h : LogF w l) : Calls Tryz.prog 137 #[pAt l] w fun r w' => r = .returned (.tuple #[]) ∧ Only (fun k => k = l) w w' := by
  rcases h with h | ⟨A, cap, h⟩
  · exact uclose0 h
  · exact uclose1 rfl h
theorem LogF.up {l : Nat} (h : LogF w l) (hb : Below w.heap.size w w') : LogF w' l := by
  rcases h with h | ⟨A, cap, h⟩
  · exact .inl (h.up hb)
  · exact .inr ⟨A, cap, h.up hb⟩
theorem LogF.none {l : Nat} (h : LogF w l) : Calls Tryz.prog 136 #[pAt l] w fun e w' => e = .returned (.bool false) ∧ w = w' := by
  rcases h with h | ⟨A, cap, h⟩
  · exact unone _ _ _ _ h
  · exact unone _ _ _ _ h
set_option maxHeartbeats 1000000 in
theorem ubound_ok {l : Nat} (h : LogF w l) : Calls Tryz.prog 86 #[pAt l] w fun r w' => r = .returned (.int .i64 0) ∧ Only (fun k => k = l) w w' := by
  have HN := Lib.hid h.none
  have HC := Lib.hid (uclose_ok h)
  clear h
  go_enter Tryz.func86, Tryz.ntmps86
  go_wp2_with fail
  refine HN.out.mono ?_
  rintro e w' ⟨rfl, rfl⟩
  go_wp2_with fail
  refine HC.out.mono ?_
  rintro e w' ⟨rfl, ho⟩
  go_wp2_with fail
  go_ret
  exact ⟨rfl, ho⟩
end
end Go.Proofs.YtklaeecegkpgmaaGreatDoor
/- Package buffer: gapOpen. -/
namespace Go.Proofs.YtklaeecegkpgmaaGreatDoor
open Go.RowKit
set_option linter.unusedVariables false
set_option linter.unusedSimpArgs false
def gapB (S : BS) (f : Int → Int → Option (Int × Int)) (at_ : Int) : Bool := S.fo || (!S.ro && !(lockB (f at_ S.lock) && lockB (f (at_ - 1) S.lock)))
section
variable {w w' : World} {b : Nat} {S : BS} {f : Int → Int → Option (Int × Int)}
set_option maxRecDepth 100000 in
set_option maxHeartbeats 2000000 in
theorem gapOpen1_ok {k0 k1 : Nat} (h : BufB w b S) (hG : GetAt w S.p f) (at_ : Int) (ha0 : 0 ≤ at_) (ha1 : at_ ≤ 1000000000) (h0 : w.cell? ⟨k0, 0, none⟩ = some (pAt b)) (h1 : w.cell? ⟨k1, 0, none⟩ = some (.int .i64 at_)) :
    Calls Tryz.prog 111 #[pAt k0, pAt k1] w fun r w2 => r = .returned (.bool (gapB S f at_)) ∧ Below w.heap.size w w2 := by
  have c5 : w.cell? ⟨b, 5, none⟩ = some (.bool S.ro) := h.cell (j := 5) rfl
  have c6 : w.cell? ⟨b, 6, none⟩ = some (.bool S.fo) := h.cell (j := 6) rfl
  have HB := Lib.hid h
  have HG := Lib.hid hG
  have HH0 := Lib.hid h0
  have HH1 := Lib.hid h1
  have s1 : IntKind.i64.wrap (at_ - 1) = at_ - 1 := IntWalk.i64_in _ (by omega)
  clear h hG ha0 ha1
  obtain ⟨R, hR⟩ : ∃ R, gapB S f at_ = R := ⟨_, rfl⟩
  rw [hR]
  unfold gapB at hR
  cases hf : S.fo with
  | true =>
    rw [hf] at c6 hR
    have hRt : R = true := by rw [← hR]; rfl
    subst hRt
    clear hR
    go_enter Tryz.func111, Tryz.ntmps111
    go_wp2_with fail
    go_ret
    exact ⟨rfl, Below.refl _ _⟩
  | false =>
    rw [hf] at c6 hR
    cases hr : S.ro with
    | true =>
      rw [hr] at c5 hR
      have hRt : R = false := by rw [← hR]; rfl
      subst hRt
      clear hR
      go_enter Tryz.func111, Tryz.ntmps111
      go_wp2_with fail
      go_ret
      exact ⟨rfl, Below.refl _ _⟩
    | false =>
      rw [hr] at c5 hR
      have HL := Lib.hid (locked_ok HB.out HG.out at_)
      cases hl : lockB (f at_ S.lock) with
      | false =>
        rw [hl] at hR HL
        have hRt : R = true := by rw [← hR]; rfl
        subst hRt
        clear hR
        go_enter Tryz.func111, Tryz.ntmps111
        go_wp2_with fail
        refine HL.out.mono ?_
        rintro r w1 ⟨rfl, hb1⟩
        go_wp2_with fail
        go_ret
        exact ⟨rfl, hb1⟩
      | true =>
        rw [hl] at hR HL
        cases hl2 : lockB (f (at_ - 1) S.lock) with
        | false =>
          rw [hl2] at hR
          have hRt : R = true := by rw [← hR]; rfl
          have HL2 := Lib.hid hl2
          subst hRt
          clear hR
          go_enter Tryz.func111, Tryz.ntmps111
          go_wp2_with fail
          refine HL.out.mono ?_
          rintro r w1 ⟨rfl, hb1⟩
          have g0 := cell_up HH0.out hb1
          have g1 := cell_up HH1.out hb1
          have hc := locked_ok (HB.out.up hb1) (HG.out.up hb1) (at_ - 1)
          rw [HL2.out] at hc
          go_wp2_with fail
          refine hc.mono ?_
          rintro r w2 ⟨rfl, hb2⟩
          go_wp2_with fail
          go_ret
          exact ⟨rfl, up2 hb1 hb2⟩
        | true =>
          rw [hl2] at hR
          have hRt : R = false := by rw [← hR]; rfl
          have HL2 := Lib.hid hl2
          subst hRt
          clear hR
          go_enter Tryz.func111, Tryz.ntmps111
          go_wp2_with fail
          refine HL.out.mono ?_
          rintro r w1 ⟨rfl, hb1⟩
          have g0 := cell_up HH0.out hb1
          have g1 := cell_up HH1.out hb1
          have hc := locked_ok (HB.out.up hb1) (HG.out.up hb1) (at_ - 1)
          rw [HL2.out] at hc
          go_wp2_with fail
          refine hc.mono ?_
          rintro r w2 ⟨rfl, hb2⟩
          go_wp2_with fail
          go_ret
          exact ⟨rfl, up2 hb1 hb2⟩
set_option maxHeartbeats 1000000 in
theorem gapOpen_ok (h : BufB w b S) (hG : GetAt w S.p f) (at_ : Int) : Calls Tryz.prog 72 #[pAt b, .int .i64 at_] w fun r w' =>
    ∃ ke kf, r = .returned (unlC ke kf (if gapB S f at_ then 0 else 14)).val ∧ Below w.heap.size w w' ∧ ChkAt w' (0 ≤ at_ ∧ at_ ≤ 1000000000) (unlC ke kf (if gapB S f at_ then 0 else 14)) := by
  have HB := Lib.hid h
  have HG := Lib.hid hG
  clear h hG
  obtain ⟨E, hE⟩ : ∃ E : Int, (if gapB S f at_ then (0 : Int) else 14) = E := ⟨_, rfl⟩
  rw [hE]
  have HE := Lib.hid hE
  clear hE
  go_enter Tryz.func72, Tryz.ntmps72
  go_wp2_with fail
  have hb3 := below2 w (.cells #[pAt b] 37) (.cells #[.int .i64 at_] 3)
  obtain ⟨a0, a1⟩ := al2 w (pAt b) (.int .i64 at_) 37 3
  generalize (w.alloc (.cells #[pAt b] 37)).alloc (.cells #[.int .i64 at_] 3) = W at *
  refine (unless_ok 14 111 #[] #[pAt w.heap.size, pAt (w.heap.size + 1)] W).mono ?_
  rintro r w1 ⟨rfl, hb1, he, hf⟩
  go_wp2_with fail
  go_ret
  refine ⟨_, _, rfl, up2 hb3 hb1, HE.out ▸ ChkAt.unless (p := gapB S f at_) (enters_mk Tryz.func111 (by kernel_rfl) rfl) he hf fun hp w2 hb2 => ?_⟩
  exact gapOpen1_ok (((HB.out.up hb3).up hb1).up hb2) (((HG.out.up hb3).up hb1).up hb2) at_ hp.1 hp.2 (cell_up a0 (up2 hb1 hb2)) (cell_up a1 (up2 hb1 hb2))
end
end Go.Proofs.YtklaeecegkpgmaaGreatDoor
