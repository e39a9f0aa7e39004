import Derived.Test.YtklaeecegkpgmaaGreatDoorJm
import Derived.Test.YtklaeecegkpgmaaGreatDoorJe
/- Package buffer: the positions move with an edit. -/
namespace Go.Proofs.YtklaeecegkpgmaaGreatDoor
open Go.RowKit
set_option linter.unusedVariables false
set_option linter.unusedSimpArgs false
/-- From w on, the closure maps positions by f. -/
structure EditAt (w : World) (F : FuncId) (cp : Array Value) (f : Int → Bool → Int) : Prop where
  en : Enters F
  run : ∀ (x : Int) (ah : Bool) (w1 : World), 0 ≤ x → x ≤ 2000000 → Below w.heap.size w w1 → Calls Tryz.prog F (#[.int .i64 x, .bool ah] ++ cp) w1 fun r w2 => r = .returned (.int .i64 (f x ah)) ∧ Below w1.heap.size w1 w2
section
variable {w w' : World} {b g o : Nat} {S : BS} {F : FuncId} {cp : Array Value} {f : Int → Bool → Int}
theorem EditAt.up (h : EditAt w F cp f) (hb : Below w.heap.size w w') : EditAt w' F cp f := ⟨h.en, fun x a w1 h0 h1 hb1 => h.run x a w1 h0 h1 (up2 hb hb1)⟩
set_option maxRecDepth 100000 in
set_option maxHeartbeats 4000000 in
theorem move_ok (hE : EditAt w F cp f) (bf : Bool) (p0 p1 p2 p3 : Int) (h0 : w.cell? ⟨g, o, none⟩ = some (.int .i64 p0)) (h1 : w.cell? ⟨g, o + 1, none⟩ = some (.int .i64 p1)) (h2 : w.cell? ⟨g, o + 2, none⟩ = some (.int .i64 p2)) (h3 : w.cell? ⟨g, o + 3, none⟩ = some (.int .i64 p3))
    (z0 : w.frozen? ⟨g, o, none⟩ = false) (z1 : w.frozen? ⟨g, o + 1, none⟩ = false) (z2 : w.frozen? ⟨g, o + 2, none⟩ = false) (z3 : w.frozen? ⟨g, o + 3, none⟩ = false)
    (b0 : 0 ≤ p0 ∧ p0 ≤ 2000000) (b1 : 0 ≤ p1 ∧ p1 ≤ 2000000) (b2 : 0 ≤ p2 ∧ p2 ≤ 2000000) (b3 : 0 ≤ p3 ∧ p3 ≤ 2000000) :
    Calls Tryz.prog 173 #[.pointer (some ⟨g, o, none⟩), .func (.func F) #[] cp, .bool bf] w fun r w' => r = .returned (.tuple #[]) ∧
      ∃ w1, Below w.heap.size w w1 ∧ w' = (((w1.setCell ⟨g, o, none⟩ (.int .i64 (f p0 bf))).setCell ⟨g, o + 1, none⟩ (.int .i64 (f p1 false))).setCell ⟨g, o + 2, none⟩ (.int .i64 (f p2 true))).setCell ⟨g, o + 3, none⟩ (.int .i64 (f p3 bf)) := by
  have hg := lt_of_cell h0
  have hin : ∀ (args : Array Value) (w : World), (callFunc F args).run Tryz.prog w = .ok (.enter F args) w := hE.en
  have C0 : ∀ x : UpW w.heap.size w, x.w.cell? ⟨g, o, none⟩ = some (.int .i64 p0) := fun x => cell_up h0 x.up
  have C1 : ∀ x : UpW w.heap.size w, x.w.cell? ⟨g, o + 1, none⟩ = some (.int .i64 p1) := fun x => cell_up h1 x.up
  have C2 : ∀ x : UpW w.heap.size w, x.w.cell? ⟨g, o + 2, none⟩ = some (.int .i64 p2) := fun x => cell_up h2 x.up
  have C3 : ∀ x : UpW w.heap.size w, x.w.cell? ⟨g, o + 3, none⟩ = some (.int .i64 p3) := fun x => cell_up h3 x.up
  have HE0 := Lib.hid fun w1 (hb : Below w.heap.size w w1) => hE.run p0 bf w1 b0.1 b0.2 hb
  have HE1 := Lib.hid fun w1 (hb : Below w.heap.size w w1) => hE.run p1 false w1 b1.1 b1.2 hb
  have HE2 := Lib.hid fun w1 (hb : Below w.heap.size w w1) => hE.run p2 true w1 b2.1 b2.2 hb
  have HE3 := Lib.hid fun w1 (hb : Below w.heap.size w w1) => hE.run p3 bf w1 b3.1 b3.2 hb
  have HC := Lib.hid (⟨h0, h1, h2, h3⟩ : _ ∧ _ ∧ _ ∧ _)
  have HZ := Lib.hid (⟨z0, z1, z2, z3⟩ : _ ∧ _ ∧ _ ∧ _)
  generalize f p0 bf = q0 at *
  generalize f p1 false = q1 at *
  generalize f p2 true = q2 at *
  generalize f p3 bf = q3 at *
  clear hE h0 h1 h2 h3 z0 z1 z2 z3 b0 b1 b2 b3
  go_enter Tryz.func173, Tryz.ntmps173
  go_wp2_with fail
  refine wp_region_mixS (fun k => k = g) [32, 35, 38, 41] (.one [(0, true), (1, false), (2, false), (3, false), (4, true), (5, true), (6, true), (7, true), (8, true), (9, true), (11, false), (12, false), (13, false), (14, false), (15, true), (17, false), (18, false), (19, false), (20, false), (21, true), (23, false), (24, false), (25, false), (26, false), (27, true), (28, false)] 10 (.one [] 16 (.one [] 22 (.one [] 29 (.one [(30, false), (31, true)] 32 (.one [(33, false), (34, false)] 35 (.one [(36, false), (37, false)] 38 (.one [(39, false), (40, false)] 41 (.done []))))))))) (by kernel_rfl) (fun c d v a w h => by cases d <;> exact h) (by kernel_rfl) ?_
  simp only [wpMixS, wpQ2, pk_nil, pk_cons, pushAt_zero, pushAt_succ, List.contains_cons, List.contains_nil, Bool.false_or, Bool.or_false, Bool.true_or, Bool.or_true, Nat.reduceBEq, Nat.reduceEqDiff]
  repeat (first | go_big_quiet_step (fail) | refine wpQuiet_nil ?_)
  clear C0 C1 C2 C3
  go_wp2_with fail
  refine (HE0.out _ (Below.refl _ w).drew).mono ?_
  rintro r w1 ⟨rfl, hb1⟩
  have hb1 : Below w.heap.size w w1 := up2 (Below.refl _ w).drew hb1
  go_wp2_with fail
  refine thenQ_normal ⟨⟨⟨_, hb1⟩, rfl⟩, ?_⟩
  go_wp2_with fail
  refine (HE1.out _ hb1).mono ?_
  rintro r w2 ⟨rfl, hb2⟩
  have hb2 : Below w.heap.size w w2 := up2 hb1 hb2
  clear hb1
  go_wp2_with fail
  refine thenQ_normal ⟨⟨⟨_, hb2⟩, rfl⟩, ?_⟩
  go_wp2_with fail
  refine (HE2.out _ hb2).mono ?_
  rintro r w3 ⟨rfl, hb3⟩
  have hb3 : Below w.heap.size w w3 := up2 hb2 hb3
  clear hb2
  go_wp2_with fail
  refine thenQ_normal ⟨⟨⟨_, hb3⟩, rfl⟩, ?_⟩
  go_wp2_with fail
  refine (HE3.out _ hb3).mono ?_
  rintro r w4 ⟨rfl, hb4⟩
  have hb4 : Below w.heap.size w w4 := up2 hb3 hb4
  clear hb3
  go_wp2_with fail
  refine thenQ_normal ⟨⟨⟨_, hb4⟩, rfl⟩, ?_⟩
  repeat (first | go_big_quiet_step (fail) | refine wpQuiet_nil ?_)
  obtain ⟨h0, h1, h2, h3⟩ := HC.out
  obtain ⟨z0, z1, z2, z3⟩ := HZ.out
  have h0 := cell_up h0 hb4
  have h1 := cell_up h1 hb4
  have h2 := cell_up h2 hb4
  have h3 := cell_up h3 hb4
  have z0 := (hb4.frozen (p := ⟨g, o, none⟩) hg).trans z0
  have z1 := (hb4.frozen (p := ⟨g, o + 1, none⟩) hg).trans z1
  have z2 := (hb4.frozen (p := ⟨g, o + 2, none⟩) hg).trans z2
  have z3 := (hb4.frozen (p := ⟨g, o + 3, none⟩) hg).trans z3
  have ho : Only (fun k => k = g) w w4 := Only.of_below hb4
  go_wp2_with fail
  refine thenQ_normal ⟨⟨⟨_, ho.setCell (p := ⟨g, o, none⟩) rfl _⟩, rfl⟩, ?_⟩
  repeat (first | go_big_quiet_step (fail) | refine wpQuiet_nil ?_)
  go_wp2_with fail
  refine thenQ_normal ⟨⟨⟨_, (ho.setCell (p := ⟨g, o, none⟩) rfl _).setCell (p := ⟨g, o + 1, none⟩) rfl _⟩, rfl⟩, ?_⟩
  repeat (first | go_big_quiet_step (fail) | refine wpQuiet_nil ?_)
  go_wp2_with fail
  refine thenQ_normal ⟨⟨⟨_, ((ho.setCell (p := ⟨g, o, none⟩) rfl _).setCell (p := ⟨g, o + 1, none⟩) rfl _).setCell (p := ⟨g, o + 2, none⟩) rfl _⟩, rfl⟩, ?_⟩
  repeat (first | go_big_quiet_step (fail) | refine wpQuiet_nil ?_)
  go_wp2_with fail
  refine thenQ_normal ⟨⟨⟨_, (((ho.setCell (p := ⟨g, o, none⟩) rfl _).setCell (p := ⟨g, o + 1, none⟩) rfl _).setCell (p := ⟨g, o + 2, none⟩) rfl _).setCell (p := ⟨g, o + 3, none⟩) rfl _⟩, rfl⟩, ?_⟩
  go_end0
  exact ⟨rfl, w4, hb4, rfl⟩
end
end Go.Proofs.YtklaeecegkpgmaaGreatDoor
/- Package buffer: inserted, moves. -/
namespace Go.Proofs.YtklaeecegkpgmaaGreatDoor
open Go.RowKit
set_option linter.unusedVariables false
set_option linter.unusedSimpArgs false
def insF (at_ n : Int) (x : Int) (ah : Bool) : Int := if at_ < x ∨ x = at_ ∧ ah = true then x + n else x
section
variable {w w' : World} {b g o : Nat} {S : BS} {F : FuncId} {cp : Array Value} {f : Int → Bool → Int}
set_option maxRecDepth 100000 in
set_option maxHeartbeats 1000000 in
theorem inserted1_ok {k0 k1 : Nat} (at_ n x : Int) (ah : Bool) (hx0 : 0 ≤ x) (hx1 : x ≤ 2000000) (hn0 : 0 ≤ n) (hn1 : n ≤ 2000000) (h0 : w.cell? ⟨k0, 0, none⟩ = some (.int .i64 at_)) (h1 : w.cell? ⟨k1, 0, none⟩ = some (.int .i64 n)) :
    Calls Tryz.prog 180 #[.int .i64 x, .bool ah, pAt k0, pAt k1] w fun r w2 => r = .returned (.int .i64 (insF at_ n x ah)) ∧ Below w.heap.size w w2 := by
  have s1 : IntKind.i64.wrap (x + n) = x + n := IntWalk.i64_in _ (by omega)
  clear hx0 hx1 hn0 hn1
  unfold insF
  by_cases hlt : at_ < x
  · rw [if_pos (.inl hlt)]
    have d1 : decide (at_ < x) = true := decide_eq_true hlt
    go_enter Tryz.func180, Tryz.ntmps180
    go_wp2_with fail
    go_ret
    exact ⟨rfl, Below.refl _ _⟩
  · have d1 : decide (at_ < x) = false := decide_eq_false hlt
    by_cases he : x = at_
    · have d2 : (x == at_) = true := by simp [he]
      cases ah with
      | true =>
        rw [if_pos (.inr ⟨he, rfl⟩)]
        clear he hlt
        go_enter Tryz.func180, Tryz.ntmps180
        go_wp2_with fail
        go_ret
        exact ⟨rfl, Below.refl _ _⟩
      | false =>
        rw [if_neg (by simp [hlt])]
        clear he hlt
        go_enter Tryz.func180, Tryz.ntmps180
        go_wp2_with fail
        go_ret
        exact ⟨rfl, Below.refl _ _⟩
    · have d2 : (x == at_) = false := by simp [he]
      rw [if_neg (by simp [hlt, he])]
      clear he hlt
      go_enter Tryz.func180, Tryz.ntmps180
      go_wp2_with fail
      go_ret
      exact ⟨rfl, Below.refl _ _⟩
set_option maxHeartbeats 1000000 in
theorem inserted_ok (at_ n : Int) (hn0 : 0 ≤ n) (hn1 : n ≤ 2000000) (w : World) : Calls Tryz.prog 128 #[.int .i64 at_, .int .i64 n] w fun r w' =>
    ∃ cp, r = .returned (.func (.func 180) #[] cp) ∧ Below w.heap.size w w' ∧ EditAt w' 180 cp (insF at_ n) := by
  have HN0 := Lib.hid hn0
  have HN1 := Lib.hid hn1
  clear hn0 hn1
  go_enter Tryz.func128, Tryz.ntmps128
  go_wp2_with fail
  go_ret
  obtain ⟨a0, a1⟩ := al2 w (.int .i64 at_) (.int .i64 n) 3 3
  refine ⟨_, rfl, below2 w _ _, enters_mk Tryz.func180 (by kernel_rfl) rfl, fun x ah w1 h0 h1 hb => ?_⟩
  exact inserted1_ok at_ n x ah h0 h1 HN0.out HN1.out (cell_up a0 hb) (cell_up a1 hb)
set_option maxHeartbeats 2000000 in
theorem moves0_ok (h : BufB w b S) (hs : S.saved = .slice none 0 0) (hE : EditAt w F cp f) (bf : Bool) (b0 : S.pt ≤ 2000000) (b1 : S.lo ≤ 2000000) (b2 : S.hi ≤ 2000000) (b3 : S.mark ≤ 2000000)
    (p' l' h' m' : Nat) (e0 : f S.pt bf = p') (e1 : f S.lo false = l') (e2 : f S.hi true = h') (e3 : f S.mark bf = m') :
    Calls Tryz.prog 122 #[pAt b, .func (.func F) #[] cp, .bool bf] w fun r w' => r = .returned (.tuple #[]) ∧ Only (fun k => k = b) w w' ∧ BufB w' b { S with pt := p', lo := l', hi := h', mark := m' } := by
  have HM := Lib.hid (move_ok (g := b) (o := 0) hE bf S.pt S.lo S.hi S.mark (h.cell (j := 0) rfl) (h.cell (j := 1) rfl) (h.cell (j := 2) rfl) (h.cell (j := 3) rfl) (h.fz 0) (h.fz 1) (h.fz 2) (h.fz 3) (by omega) (by omega) (by omega) (by omega))
  rw [e0, e1, e2, e3] at HM
  have H := Lib.hid h
  have HS := Lib.hid hs
  have hin : ∀ (args : Array Value) (w : World), (callFunc F args).run Tryz.prog w = .ok (.enter F args) w := hE.en
  clear h hs hE b0 b1 b2 b3 e0 e1 e2 e3
  go_enter Tryz.func122, Tryz.ntmps122
  go_wp2_with fail
  refine HM.out.mono ?_
  rintro r wx ⟨rfl, w1, hb1, rfl⟩
  have h4 : BufB ((((w1.setCell ⟨b, 0, none⟩ (.int .i64 (p' : Int))).setCell ⟨b, 0 + 1, none⟩ (.int .i64 (l' : Int))).setCell ⟨b, 0 + 2, none⟩ (.int .i64 (h' : Int))).setCell ⟨b, 0 + 3, none⟩ (.int .i64 (m' : Int))) b { S with pt := p', lo := l', hi := h', mark := m' } :=
    ((((H.out.up hb1).set (j := 0) (by simp) (.int .i64 (p' : Int))).set (j := 1) (by simp) (.int .i64 (l' : Int))).set (j := 2) (by simp) (.int .i64 (h' : Int))).set (j := 3) (by simp) (.int .i64 (m' : Int))
  have o4 : Only (fun k => k = b) w ((((w1.setCell ⟨b, 0, none⟩ (.int .i64 (p' : Int))).setCell ⟨b, 0 + 1, none⟩ (.int .i64 (l' : Int))).setCell ⟨b, 0 + 2, none⟩ (.int .i64 (h' : Int))).setCell ⟨b, 0 + 3, none⟩ (.int .i64 (m' : Int))) :=
    ((((Only.of_below (S := fun k => k = b) hb1).setCell (p := ⟨b, 0, none⟩) rfl _).setCell (p := ⟨b, 0 + 1, none⟩) rfl _).setCell (p := ⟨b, 0 + 2, none⟩) rfl _).setCell (p := ⟨b, 0 + 3, none⟩) rfl _
  generalize (((w1.setCell ⟨b, 0, none⟩ (.int .i64 (p' : Int))).setCell ⟨b, 0 + 1, none⟩ (.int .i64 (l' : Int))).setCell ⟨b, 0 + 2, none⟩ (.int .i64 (h' : Int))).setCell ⟨b, 0 + 3, none⟩ (.int .i64 (m' : Int)) = W at *
  have c17 : W.cell? ⟨b, 17, none⟩ = some (.slice none 0 0) := by rw [← HS.out]; exact h4.cell (j := 17) rfl
  have H4 := Lib.hid h4
  clear h4 HM
  go_wp2_with fail
  go_loopw [18] (fun va wr => va = .int .i64 0 ∧ W = wr) (fun _ _ => 0)
  case atStart => exact ⟨rfl, rfl⟩
  case round =>
    obtain ⟨rfl, rfl⟩ := hrel
    go_wp2_with fail
    go_end0
    exact ⟨rfl, o4, H4.out⟩
end
end Go.Proofs.YtklaeecegkpgmaaGreatDoor
