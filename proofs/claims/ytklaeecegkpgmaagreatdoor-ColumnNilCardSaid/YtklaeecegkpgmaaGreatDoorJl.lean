import Derived.Test.YtklaeecegkpgmaaGreatDoorJg
import Derived.Test.YtklaeecegkpgmaaGreatDoorJj
import Derived.Test.YtklaeecegkpgmaaGreatDoorJe
/- Package buffer: within, made, fits as checks. -/
namespace Go.Proofs.YtklaeecegkpgmaaGreatDoor
open Go.RowKit
set_option linter.unusedVariables false
set_option linter.unusedSimpArgs false
section
variable {w w' : World} {P : Prop} {c : Chk} {b : Nat} {S : BS}
theorem al3 (w : World) (x y z : Value) (T U V : TypeId) :
    (((w.alloc (.cells #[x] T)).alloc (.cells #[y] U)).alloc (.cells #[z] V)).cell? ⟨w.heap.size, 0, none⟩ = some x ∧ (((w.alloc (.cells #[x] T)).alloc (.cells #[y] U)).alloc (.cells #[z] V)).cell? ⟨w.heap.size + 1, 0, none⟩ = some y ∧
    (((w.alloc (.cells #[x] T)).alloc (.cells #[y] U)).alloc (.cells #[z] V)).cell? ⟨w.heap.size + 2, 0, none⟩ = some z := by
  have h1 := (al2 w x y T U).1
  have h2 := (al2 (w.alloc (.cells #[x] T)) y z U V)
  have e1 : (w.alloc (.cells #[x] T)).heap.size = w.heap.size + 1 := by simp
  rw [e1] at h2
  refine ⟨?_, h2.1, h2.2⟩
  rw [World.cell?_of_block (w := (w.alloc (.cells #[x] T)).alloc (.cells #[y] U)) (a := ⟨w.heap.size, 0, none⟩) ((MapKept.heap_alloc _ _).2 _ (by simp; omega))]
  exact h1
theorem below3 (w : World) (x y z : Obj) : Below w.heap.size w (((w.alloc x).alloc y).alloc z) := (below2 w x y).alloc (by simp; omega) z
theorem cell_up {w w' : World} {k j : Nat} {v : Value} (h : w.cell? ⟨k, j, none⟩ = some v) (hb : Below w.heap.size w w') : w'.cell? ⟨k, j, none⟩ = some v := (World.cell?_of_block (w := w) (a := ⟨k, j, none⟩) (hb.block _ (lt_of_cell h))).trans h
def reachB (S : BS) (x y : Int) : Bool := decide ((S.lo : Int) ≤ x) && decide (x ≤ y) && decide (y ≤ (S.hi : Int))
set_option maxHeartbeats 1000000 in
theorem within1_ok {k0 k1 k2 : Nat} (h : BufB w b S) (x y : Int) (h0 : w.cell? ⟨k0, 0, none⟩ = some (pAt b)) (h1 : w.cell? ⟨k1, 0, none⟩ = some (.int .i64 x)) (h2 : w.cell? ⟨k2, 0, none⟩ = some (.int .i64 y)) :
    Calls Tryz.prog 91 #[pAt k0, pAt k1, pAt k2] w fun r w2 => r = .returned (.bool (reachB S x y)) ∧ Below w.heap.size w w2 := by
  have HR := Lib.hid (reach_ok h x y)
  clear h
  go_enter Tryz.func91, Tryz.ntmps91
  go_wp2_with fail
  refine HR.out.mono ?_
  rintro r w1 ⟨rfl, rfl⟩
  go_wp2_with fail
  go_ret
  exact ⟨rfl, Below.refl _ _⟩
set_option maxHeartbeats 1000000 in
theorem within_ok (h : BufB w b S) (x y : Int) : Calls Tryz.prog 51 #[pAt b, .int .i64 x, .int .i64 y] w fun r w' =>
    ∃ ke kf, r = .returned (unlC ke kf (if reachB S x y then 0 else 3)).val ∧ Below w.heap.size w w' ∧ ChkAt w' True (unlC ke kf (if reachB S x y then 0 else 3)) := by
  have HB := Lib.hid h
  clear h
  obtain ⟨E, hE⟩ : ∃ E : Int, (if reachB S x y then (0 : Int) else 3) = E := ⟨_, rfl⟩
  rw [hE]
  have HE := Lib.hid hE
  clear hE
  go_enter Tryz.func51, Tryz.ntmps51
  go_wp2_with fail
  have hb3 := below3 w (.cells #[pAt b] 37) (.cells #[.int .i64 x] 3) (.cells #[.int .i64 y] 3)
  obtain ⟨a0, a1, a2⟩ := al3 w (pAt b) (.int .i64 x) (.int .i64 y) 37 3 3
  generalize ((w.alloc (.cells #[pAt b] 37)).alloc (.cells #[.int .i64 x] 3)).alloc (.cells #[.int .i64 y] 3) = W at *
  refine (unless_ok 3 91 #[] #[pAt w.heap.size, pAt (w.heap.size + 1), pAt (w.heap.size + 2)] W).mono ?_
  rintro r w1 ⟨rfl, hb1, he, hf⟩
  go_wp2_with fail
  go_ret
  refine ⟨_, _, rfl, up2 hb3 hb1, HE.out ▸ ChkAt.unless (p := reachB S x y) (enters_mk Tryz.func91 (by kernel_rfl) rfl) he hf fun _ w2 hb2 => ?_⟩
  exact within1_ok (((HB.out.up hb3).up hb1).up hb2) x y (cell_up a0 (up2 hb1 hb2)) (cell_up a1 (up2 hb1 hb2)) (cell_up a2 (up2 hb1 hb2))
set_option maxHeartbeats 1000000 in
theorem bnoneB (h : BufB w b S) : Calls Tryz.prog 64 #[pAt b] w fun e w' => e = .returned (.bool false) ∧ w = w' := by
  have c9 := h.cell (j := 9) rfl
  clear h
  go_enter Tryz.func64, Tryz.ntmps64
  go_wp2_with fail
  go_ret
  exact ⟨rfl, rfl⟩
set_option maxHeartbeats 1000000 in
theorem made_ok (h : BufB w b S) : Calls Tryz.prog 50 #[pAt b] w fun e w' => e = .returned (.int .i64 0) ∧ w = w' := by
  have HN := Lib.hid (bnoneB h)
  clear h
  go_enter Tryz.func50, Tryz.ntmps50
  go_wp2_with fail
  refine HN.out.mono ?_
  rintro e w' ⟨rfl, rfl⟩
  go_wp2_with fail
  go_ret
  exact ⟨rfl, rfl⟩
abbrev madeC (b : Nat) : Chk := ⟨50, #[pAt b], #[], 0⟩
theorem ChkAt.made (h : BufB w b S) : ChkAt w True (madeC b) := ⟨enters_mk Tryz.func50 (by kernel_rfl) rfl, fun _ w1 hb => (made_ok (h.up hb)).mono fun _ _ ⟨h1, h2⟩ => ⟨h1, h2 ▸ Below.refl _ _⟩⟩
/-! ### fits -/
/-- What 'fits' answers: n characters there, less of them to go, the string s. -/
def fitsE (s : ByteArray) (n : Nat) (less : Int) : Int := if vld s = true then (if (65536 : Int) < (n : Int) - less + rlenG s then 4 else 0) else 5
set_option maxHeartbeats 1000000 in
theorem fits1_ok {N k0 k1 k2 n : Nat} (hT : Tabs N w) (h : BufB w b S) (s : ByteArray) (hs : s.size ≤ 1000000) (less : Int) (hl0 : 0 ≤ less) (hl1 : less ≤ n) (hn : n ≤ 1000000)
    (hS : ∀ w1, Below w.heap.size w w1 → Calls Tryz.prog 97 #[pAt S.t] w1 fun r w2 => r = .returned (.int .i64 n) ∧ Below w1.heap.size w1 w2)
    (h0 : w.cell? ⟨k0, 0, none⟩ = some (.string s)) (h1 : w.cell? ⟨k1, 0, none⟩ = some (pAt b)) (h2 : w.cell? ⟨k2, 0, none⟩ = some (.int .i64 less)) :
    Calls Tryz.prog 112 #[pAt k0, pAt k1, pAt k2] w fun r w2 => r = .returned (.int .i64 (fitsE s n less)) ∧ Below w.heap.size w w2 := by
  have hV := valid_any s w (by omega) hT
  have HT := Lib.hid hT
  have HB := Lib.hid h
  have HS := Lib.hid hS
  have HH0 := Lib.hid h0
  have HH1 := Lib.hid h1
  have HH2 := Lib.hid h2
  unfold fitsE
  clear hT h hS h1 h2
  cases hv : vld s with
  | false =>
    rw [hv] at hV
    go_enter Tryz.func112, Tryz.ntmps112
    go_wp2_with fail
    refine hV.mono ?_
    rintro r w1 ⟨rfl, hb1⟩
    go_wp2_with fail
    go_ret
    exact ⟨rfl, hb1⟩
  | true =>
    rw [hv] at hV
    have hlen : rlenG s ≤ s.size := by
      have := rlenG_chars (s := s) (by rw [← vld_chars]; exact hv)
      have := chrs_len s
      omega
    have HVV := Lib.hid hv
    rw [if_pos rfl]
    obtain ⟨R, hR⟩ : ∃ R : Int, R = if (65536 : Int) < (n : Int) - less + rlenG s then 4 else 0 := ⟨_, rfl⟩
    rw [← hR]
    have HR := Lib.hid hR
    clear hv hR
    go_enter Tryz.func112, Tryz.ntmps112
    go_wp2_with fail
    refine hV.mono ?_
    rintro r w1 ⟨rfl, hb1⟩
    clear hV h0
    have HB1 := Lib.hid hb1
    clear hb1
    go_wp2_with fail
    have q0 : ∀ x : UpW w1.heap.size w1, x.w.cell? ⟨k0, 0, none⟩ = some (.string s) := fun x => cell_up HH0.out (up2 HB1.out x.up)
    have q1 : ∀ x : UpW w1.heap.size w1, x.w.cell? ⟨k1, 0, none⟩ = some (pAt b) := fun x => cell_up HH1.out (up2 HB1.out x.up)
    have q2 : ∀ x : UpW w1.heap.size w1, x.w.cell? ⟨k2, 0, none⟩ = some (.int .i64 less) := fun x => cell_up HH2.out (up2 HB1.out x.up)
    have q9 : ∀ x : UpW w1.heap.size w1, x.w.cell? ⟨b, 9, none⟩ = some (pAt S.t) := fun x => ((HB.out.up HB1.out).up x.up).cell (j := 9) rfl
    have s1 : IntKind.i64.wrap ((n : Int) - less) = (n : Int) - less := IntWalk.i64_in _ (by omega)
    have s2 : IntKind.i64.wrap ((n : Int) - less + rlenG s) = (n : Int) - less + rlenG s := IntWalk.i64_in _ (by omega)
    have HSS := Lib.hid fun (x : UpW w1.heap.size w1) => HS.out x.w (up2 HB1.out x.up)
    have HLL := Lib.hid fun (x : UpW w1.heap.size w1) => runesLen s x.w (by omega) ((HT.out.up HB1.out).up x.up)
    refine wp_region_up w1.heap.size (by kernel_rfl) (by kernel_rfl) ?_
    repeat (go_big_quiet_step (first | exact Calls.up ‹_› (Nat.le_refl _) (HSS.out _) | exact Calls.up ‹_› (Nat.le_refl _) (HLL.out _)))
    refine wpQuiet_nil ?_
    rintro ⟨w2, hb2⟩
    dsimp only
    clear q0 q1 q2 q9
    by_cases hlt : (65536 : Int) < (n : Int) - less + rlenG s
    · have d1 : decide ((65536 : Int) < (n : Int) - less + rlenG s) = true := decide_eq_true hlt
      have hr : R = 4 := by rw [HR.out, if_pos hlt]
      subst hr
      go_wp2_with fail
      go_ret
      exact ⟨rfl, up2 HB1.out hb2⟩
    · have d1 : decide ((65536 : Int) < (n : Int) - less + rlenG s) = false := decide_eq_false hlt
      have hr : R = 0 := by rw [HR.out, if_neg hlt]
      subst hr
      go_wp2_with fail
      go_ret
      exact ⟨rfl, up2 HB1.out hb2⟩
/-- The check that 'fits' makes. -/
abbrev fitC (k0 k1 k2 : Nat) (e : Int) : Chk := ⟨112, #[], #[pAt k0, pAt k1, pAt k2], e⟩
set_option maxHeartbeats 1000000 in
theorem fits_ok {N n : Nat} (hT : Tabs N w) (h : BufB w b S) (s : ByteArray) (hs : s.size ≤ 1000000) (less : Int) (hn : n ≤ 1000000)
    (hS : ∀ w1, Below w.heap.size w w1 → Calls Tryz.prog 97 #[pAt S.t] w1 fun r w2 => r = .returned (.int .i64 n) ∧ Below w1.heap.size w1 w2) :
    Calls Tryz.prog 73 #[pAt b, .string s, .int .i64 less] w fun r w' => ∃ k0 k1 k2, r = .returned (fitC k0 k1 k2 (fitsE s n less)).val ∧ Below w.heap.size w w' ∧ ChkAt w' (0 ≤ less ∧ less ≤ n) (fitC k0 k1 k2 (fitsE s n less)) := by
  have HT := Lib.hid hT
  have HB := Lib.hid h
  have HS := Lib.hid hS
  clear hT h hS
  obtain ⟨E, hE⟩ : ∃ E : Int, fitsE s n less = E := ⟨_, rfl⟩
  rw [hE]
  have HE := Lib.hid hE
  clear hE
  go_enter Tryz.func73, Tryz.ntmps73
  go_wp2_with fail
  go_ret
  have hb3 := below3 w (.cells #[pAt b] 37) (.cells #[.string s] 9) (.cells #[.int .i64 less] 3)
  obtain ⟨a0, a1, a2⟩ := al3 w (pAt b) (.string s) (.int .i64 less) 37 9 3
  generalize ((w.alloc (.cells #[pAt b] 37)).alloc (.cells #[.string s] 9)).alloc (.cells #[.int .i64 less] 3) = W at *
  refine ⟨_, _, _, rfl, hb3, enters_mk Tryz.func112 (by kernel_rfl) rfl, fun ⟨p1, p2⟩ w1 hb1 => ?_⟩
  rw [← HE.out]
  exact fits1_ok ((HT.out.up hb3).up hb1) ((HB.out.up hb3).up hb1) s hs less p1 p2 hn (fun w2 hb2 => HS.out w2 (up2 hb3 (up2 hb1 hb2))) (cell_up a1 hb1) (cell_up a0 hb1) (cell_up a2 hb1)
end
end Go.Proofs.YtklaeecegkpgmaaGreatDoor
/- Package buffer: locked, gapOpen. -/
namespace Go.Proofs.YtklaeecegkpgmaaGreatDoor
open Go.RowKit
set_option linter.unusedVariables false
set_option linter.unusedSimpArgs false
abbrev wordV (x : Int × Int) : Value := .agg #[.int .i64 x.1, .int .i64 x.2]
/-- What props.Get hands back. -/
def getV (o : Option (Int × Int)) : Value := .tuple #[wordV (o.getD (0, 0)), .bool o.isSome]
/-- From w on, the properties at block p read by f. -/
def GetAt (w : World) (p : Nat) (f : Int → Int → Option (Int × Int)) : Prop := ∀ (at_ name : Int) (w1 : World), Below w.heap.size w w1 → Calls Tryz.prog 147 #[pAt p, .int .i64 at_, .int .i64 name] w1 fun r w2 => r = .returned (getV (f at_ name)) ∧ Below w1.heap.size w1 w2
def lockB (o : Option (Int × Int)) : Bool := match o with | none => false | some x => !(x == (1, 0))
section
variable {w w' : World} {b : Nat} {S : BS} {f : Int → Int → Option (Int × Int)}
theorem GetAt.up {p : Nat} (h : GetAt w p f) (hb : Below w.heap.size w w') : GetAt w' p f := fun a n w1 hb1 => h a n w1 (up2 hb hb1)
set_option maxRecDepth 100000 in
set_option maxHeartbeats 2000000 in
theorem locked_ok (h : BufB w b S) (hG : GetAt w S.p f) (at_ : Int) : Calls Tryz.prog 110 #[pAt b, .int .i64 at_] w fun r w2 => r = .returned (.bool (lockB (f at_ S.lock))) ∧ Below w.heap.size w w2 := by
  have C11 : ∀ x : UpW w.heap.size w, x.w.cell? ⟨b, 11, none⟩ = some (pAt S.p) := fun x => (h.up x.up).cell (j := 11) rfl
  have C16 : ∀ x : UpW w.heap.size w, x.w.cell? ⟨b, 16, none⟩ = some (.int .i64 S.lock) := fun x => (h.up x.up).cell (j := 16) rfl
  have HG := Lib.hid fun (w1 : World) (hb : Below w.heap.size w w1) => hG at_ S.lock w1 hb
  clear h hG
  obtain ⟨R, hR⟩ : ∃ R, lockB (f at_ S.lock) = R := ⟨_, rfl⟩
  rw [hR]
  have HR := Lib.hid hR
  clear hR
  have hb0 := below1 w
  go_enter Tryz.func110, Tryz.ntmps110
  go_wp2_with fail
  refine wp_region_mixT w.heap.size 16 (.two [0, 1, 2, 3, 4, 5, 6, 7, 8] 9 (.one [10, 11, 12] 13 (.one [] 14 (.done [15]))) 13 (.one [] 9 (.one [10, 11, 12] 14 (.done [15])))) (by kernel_rfl) (fun c d v a w h => by cases d <;> exact h) (by kernel_rfl) ?_
  simp only [wpMixT, pk_nil, pk_cons, pushAt_zero, pushAt_succ, List.drop_succ_cons, List.drop_zero]
  repeat (go_big_quiet_step (fail))
  refine wpQuiet_nil ?_
  clear C11 C16
  cases ho : f at_ S.lock with
  | none =>
    have HG1 : ∀ w1, Below w.heap.size w w1 → Calls Tryz.prog 147 #[pAt S.p, .int .i64 at_, .int .i64 S.lock] w1 fun r w2 => r = .returned (.tuple #[.agg #[.int .i64 0, .int .i64 0], .bool false]) ∧ Below w1.heap.size w1 w2 := fun w1 hb => by have := HG.out w1 hb; rw [ho] at this; exact this
    have HG := Lib.hid HG1
    clear HG1
    have hRf : R = false := by rw [← HR.out, ho]; rfl
    subst hRf
    refine ⟨?_, ?_⟩
    · go_wp2_with fail
      refine (HG.out _ (Below.refl _ w).drew).mono ?_
      rintro r w1 ⟨rfl, hb1⟩
      have hb1' : Below w.heap.size w w1 := up2 (Below.refl _ w).drew hb1
      go_wp2_with fail
      refine thenQ_normal ⟨⟨⟨_, hb1'⟩, rfl⟩, ?_⟩
      repeat (go_big_quiet_step (fail))
      refine wpQuiet_nil ?_
      go_wp2_with fail
      refine thenQ_normal ⟨⟨⟨_, hb1'.alloc hb1'.size _⟩, rfl⟩, ?_⟩
      refine wpQuiet_nil ?_
      go_wp2_with fail
      refine thenQ_normal ⟨⟨⟨_, hb1'.alloc hb1'.size _⟩, rfl⟩, ?_⟩
      repeat (go_big_quiet_step (fail))
      refine wpQuiet_nil ?_
      go_wp2_with fail
      go_ret
      exact ⟨rfl, hb1'.alloc hb1'.size _⟩
    · go_wp2_with fail
      refine thenQ_normal ⟨⟨⟨_, (Below.refl _ w).drew.alloc (Nat.le_refl _) _⟩, rfl⟩, ?_⟩
      refine wpQuiet_nil ?_
      have hk : Blk (w.drew.alloc (.cells #[.int .i64 0, .int .i64 0] 154)) w.heap.size 154 #[.int .i64 0, .int .i64 0] := Blk.made w.drew 154 #[.int .i64 0, .int .i64 0]
      have hbk : Below w.heap.size w (w.drew.alloc (.cells #[.int .i64 0, .int .i64 0] 154)) := (Below.refl _ w).drew.alloc (Nat.le_refl _) _
      go_wp2_with fail
      refine (HG.out _ hbk).mono ?_
      rintro r w1 ⟨rfl, hb1⟩
      have hb1' : Below w.heap.size w w1 := up2 hbk hb1
      have hk1 := hk.up hb1
      have k0 := hk1.cell (j := 0) rfl
      have k1 := hk1.cell (j := 1) rfl
      have f0 := hk1.fz 0
      have f1 := hk1.fz 1
      go_wp2_with fail
      refine thenQ_normal ⟨⟨⟨_, hb1'⟩, rfl⟩, ?_⟩
      repeat (go_big_quiet_step (fail))
      refine wpQuiet_nil ?_
      go_wp2_with fail
      refine thenQ_normal ⟨⟨⟨_, (hb1'.setCell (p := ⟨w.heap.size, 0, none⟩) (Nat.le_refl _) _).setCell (p := ⟨w.heap.size, 1, none⟩) (Nat.le_refl _) _⟩, rfl⟩, ?_⟩
      repeat (go_big_quiet_step (fail))
      refine wpQuiet_nil ?_
      clear k0 k1 f0 f1
      have hbn := (hb1'.setCell (p := ⟨w.heap.size, 0, none⟩) (Nat.le_refl _) (.int .i64 0)).setCell (p := ⟨w.heap.size, 1, none⟩) (Nat.le_refl _) (.int .i64 0)
      have hk2 := (hk1.set (j := 0) (by simp) (.int .i64 0)).set (j := 1) (by simp) (.int .i64 0)
      have k0 := hk2.cell (j := 0) rfl
      have k1 := hk2.cell (j := 1) rfl
      generalize (w1.setCell ⟨w.heap.size, 0, none⟩ (.int .i64 0)).setCell ⟨w.heap.size, 1, none⟩ (.int .i64 0) = w3 at *
      go_wp2_with fail
      go_ret
      exact ⟨rfl, hbn⟩
  | some x =>
    obtain ⟨xk, xn⟩ := x
    have HG1 : ∀ w1, Below w.heap.size w w1 → Calls Tryz.prog 147 #[pAt S.p, .int .i64 at_, .int .i64 S.lock] w1 fun r w2 => r = .returned (.tuple #[.agg #[.int .i64 xk, .int .i64 xn], .bool true]) ∧ Below w1.heap.size w1 w2 := fun w1 hb => by have := HG.out w1 hb; rw [ho] at this; exact this
    have HG := Lib.hid HG1
    clear HG1
    have hRf : R = !((xk, xn) == ((1, 0) : Int × Int)) := by rw [← HR.out, ho]; rfl
    by_cases hk1 : xk = 1
    · by_cases hn0 : xn = 0
      · subst hk1 hn0
        have hRt : R = false := by rw [hRf]; rfl
        clear hRf
        subst hRt
        refine ⟨?_, ?_⟩
        · go_wp2_with fail
          refine (HG.out _ (Below.refl _ w).drew).mono ?_
          rintro r w1 ⟨rfl, hb1⟩
          have hb1' : Below w.heap.size w w1 := up2 (Below.refl _ w).drew hb1
          go_wp2_with fail
          refine thenQ_normal ⟨⟨⟨_, hb1'⟩, rfl⟩, ?_⟩
          repeat (go_big_quiet_step (fail))
          refine wpQuiet_nil ?_
          go_wp2_with fail
          refine thenQ_normal ⟨⟨⟨_, hb1'.alloc hb1'.size _⟩, rfl⟩, ?_⟩
          refine wpQuiet_nil ?_
          go_wp2_with fail
          refine thenQ_normal ⟨⟨⟨_, hb1'.alloc hb1'.size _⟩, rfl⟩, ?_⟩
          repeat (go_big_quiet_step (fail))
          refine wpQuiet_nil ?_
          go_wp2_with fail
          go_ret
          exact ⟨rfl, hb1'.alloc hb1'.size _⟩
        · go_wp2_with fail
          refine thenQ_normal ⟨⟨⟨_, (Below.refl _ w).drew.alloc (Nat.le_refl _) _⟩, rfl⟩, ?_⟩
          refine wpQuiet_nil ?_
          have hk : Blk (w.drew.alloc (.cells #[.int .i64 0, .int .i64 0] 154)) w.heap.size 154 #[.int .i64 0, .int .i64 0] := Blk.made w.drew 154 #[.int .i64 0, .int .i64 0]
          have hbk : Below w.heap.size w (w.drew.alloc (.cells #[.int .i64 0, .int .i64 0] 154)) := (Below.refl _ w).drew.alloc (Nat.le_refl _) _
          go_wp2_with fail
          refine (HG.out _ hbk).mono ?_
          rintro r w1 ⟨rfl, hb1⟩
          have hb1' : Below w.heap.size w w1 := up2 hbk hb1
          have hk1 := hk.up hb1
          have k0 := hk1.cell (j := 0) rfl
          have k1 := hk1.cell (j := 1) rfl
          have f0 := hk1.fz 0
          have f1 := hk1.fz 1
          go_wp2_with fail
          refine thenQ_normal ⟨⟨⟨_, hb1'⟩, rfl⟩, ?_⟩
          repeat (go_big_quiet_step (fail))
          refine wpQuiet_nil ?_
          go_wp2_with fail
          refine thenQ_normal ⟨⟨⟨_, (hb1'.setCell (p := ⟨w.heap.size, 0, none⟩) (Nat.le_refl _) _).setCell (p := ⟨w.heap.size, 1, none⟩) (Nat.le_refl _) _⟩, rfl⟩, ?_⟩
          repeat (go_big_quiet_step (fail))
          refine wpQuiet_nil ?_
          clear k0 k1 f0 f1
          have hbn := (hb1'.setCell (p := ⟨w.heap.size, 0, none⟩) (Nat.le_refl _) (.int .i64 1)).setCell (p := ⟨w.heap.size, 1, none⟩) (Nat.le_refl _) (.int .i64 0)
          have hk2 := (hk1.set (j := 0) (by simp) (.int .i64 1)).set (j := 1) (by simp) (.int .i64 0)
          have k0 := hk2.cell (j := 0) rfl
          have k1 := hk2.cell (j := 1) rfl
          generalize (w1.setCell ⟨w.heap.size, 0, none⟩ (.int .i64 1)).setCell ⟨w.heap.size, 1, none⟩ (.int .i64 0) = w3 at *
          go_wp2_with fail
          go_ret
          exact ⟨rfl, hbn⟩
      · have hRt : R = true := by rw [hRf, hk1]; simp [hn0]
        subst hk1
        have e0 : (xn == 0) = false := by simp [hn0]
        clear hRf
        subst hRt
        refine ⟨?_, ?_⟩
        · go_wp2_with fail
          refine (HG.out _ (Below.refl _ w).drew).mono ?_
          rintro r w1 ⟨rfl, hb1⟩
          have hb1' : Below w.heap.size w w1 := up2 (Below.refl _ w).drew hb1
          go_wp2_with fail
          refine thenQ_normal ⟨⟨⟨_, hb1'⟩, rfl⟩, ?_⟩
          repeat (go_big_quiet_step (fail))
          refine wpQuiet_nil ?_
          go_wp2_with fail
          refine thenQ_normal ⟨⟨⟨_, hb1'.alloc hb1'.size _⟩, rfl⟩, ?_⟩
          refine wpQuiet_nil ?_
          go_wp2_with fail
          refine thenQ_normal ⟨⟨⟨_, hb1'.alloc hb1'.size _⟩, rfl⟩, ?_⟩
          repeat (go_big_quiet_step (fail))
          refine wpQuiet_nil ?_
          go_wp2_with fail
          go_ret
          exact ⟨rfl, hb1'.alloc hb1'.size _⟩
        · go_wp2_with fail
          refine thenQ_normal ⟨⟨⟨_, (Below.refl _ w).drew.alloc (Nat.le_refl _) _⟩, rfl⟩, ?_⟩
          refine wpQuiet_nil ?_
          have hk : Blk (w.drew.alloc (.cells #[.int .i64 0, .int .i64 0] 154)) w.heap.size 154 #[.int .i64 0, .int .i64 0] := Blk.made w.drew 154 #[.int .i64 0, .int .i64 0]
          have hbk : Below w.heap.size w (w.drew.alloc (.cells #[.int .i64 0, .int .i64 0] 154)) := (Below.refl _ w).drew.alloc (Nat.le_refl _) _
          go_wp2_with fail
          refine (HG.out _ hbk).mono ?_
          rintro r w1 ⟨rfl, hb1⟩
          have hb1' : Below w.heap.size w w1 := up2 hbk hb1
          have hk1 := hk.up hb1
          have k0 := hk1.cell (j := 0) rfl
          have k1 := hk1.cell (j := 1) rfl
          have f0 := hk1.fz 0
          have f1 := hk1.fz 1
          go_wp2_with fail
          refine thenQ_normal ⟨⟨⟨_, hb1'⟩, rfl⟩, ?_⟩
          repeat (go_big_quiet_step (fail))
          refine wpQuiet_nil ?_
          go_wp2_with fail
          refine thenQ_normal ⟨⟨⟨_, (hb1'.setCell (p := ⟨w.heap.size, 0, none⟩) (Nat.le_refl _) _).setCell (p := ⟨w.heap.size, 1, none⟩) (Nat.le_refl _) _⟩, rfl⟩, ?_⟩
          repeat (go_big_quiet_step (fail))
          refine wpQuiet_nil ?_
          clear k0 k1 f0 f1
          have hbn := (hb1'.setCell (p := ⟨w.heap.size, 0, none⟩) (Nat.le_refl _) (.int .i64 1)).setCell (p := ⟨w.heap.size, 1, none⟩) (Nat.le_refl _) (.int .i64 xn)
          have hk2 := (hk1.set (j := 0) (by simp) (.int .i64 1)).set (j := 1) (by simp) (.int .i64 xn)
          have k0 := hk2.cell (j := 0) rfl
          have k1 := hk2.cell (j := 1) rfl
          generalize (w1.setCell ⟨w.heap.size, 0, none⟩ (.int .i64 1)).setCell ⟨w.heap.size, 1, none⟩ (.int .i64 xn) = w3 at *
          go_wp2_with fail
          go_ret
          exact ⟨rfl, hbn⟩
    · have hRt : R = true := by rw [hRf]; simp [hk1]
      have e0 : (xk == 1) = false := by simp [hk1]
      clear hRf
      subst hRt
      refine ⟨?_, ?_⟩
      · go_wp2_with fail
        refine (HG.out _ (Below.refl _ w).drew).mono ?_
        rintro r w1 ⟨rfl, hb1⟩
        have hb1' : Below w.heap.size w w1 := up2 (Below.refl _ w).drew hb1
        go_wp2_with fail
        refine thenQ_normal ⟨⟨⟨_, hb1'⟩, rfl⟩, ?_⟩
        repeat (go_big_quiet_step (fail))
        refine wpQuiet_nil ?_
        go_wp2_with fail
        refine thenQ_normal ⟨⟨⟨_, hb1'.alloc hb1'.size _⟩, rfl⟩, ?_⟩
        refine wpQuiet_nil ?_
        go_wp2_with fail
        refine thenQ_normal ⟨⟨⟨_, hb1'.alloc hb1'.size _⟩, rfl⟩, ?_⟩
        repeat (go_big_quiet_step (fail))
        refine wpQuiet_nil ?_
        go_wp2_with fail
        go_ret
        exact ⟨rfl, hb1'.alloc hb1'.size _⟩
      · go_wp2_with fail
        refine thenQ_normal ⟨⟨⟨_, (Below.refl _ w).drew.alloc (Nat.le_refl _) _⟩, rfl⟩, ?_⟩
        refine wpQuiet_nil ?_
        have hk : Blk (w.drew.alloc (.cells #[.int .i64 0, .int .i64 0] 154)) w.heap.size 154 #[.int .i64 0, .int .i64 0] := Blk.made w.drew 154 #[.int .i64 0, .int .i64 0]
        have hbk : Below w.heap.size w (w.drew.alloc (.cells #[.int .i64 0, .int .i64 0] 154)) := (Below.refl _ w).drew.alloc (Nat.le_refl _) _
        go_wp2_with fail
        refine (HG.out _ hbk).mono ?_
        rintro r w1 ⟨rfl, hb1⟩
        have hb1' : Below w.heap.size w w1 := up2 hbk hb1
        have hk1 := hk.up hb1
        have k0 := hk1.cell (j := 0) rfl
        have k1 := hk1.cell (j := 1) rfl
        have f0 := hk1.fz 0
        have f1 := hk1.fz 1
        go_wp2_with fail
        refine thenQ_normal ⟨⟨⟨_, hb1'⟩, rfl⟩, ?_⟩
        repeat (go_big_quiet_step (fail))
        refine wpQuiet_nil ?_
        go_wp2_with fail
        refine thenQ_normal ⟨⟨⟨_, (hb1'.setCell (p := ⟨w.heap.size, 0, none⟩) (Nat.le_refl _) _).setCell (p := ⟨w.heap.size, 1, none⟩) (Nat.le_refl _) _⟩, rfl⟩, ?_⟩
        repeat (go_big_quiet_step (fail))
        refine wpQuiet_nil ?_
        clear k0 k1 f0 f1
        have hbn := (hb1'.setCell (p := ⟨w.heap.size, 0, none⟩) (Nat.le_refl _) (.int .i64 xk)).setCell (p := ⟨w.heap.size, 1, none⟩) (Nat.le_refl _) (.int .i64 xn)
        have hk2 := (hk1.set (j := 0) (by simp) (.int .i64 xk)).set (j := 1) (by simp) (.int .i64 xn)
        have k0 := hk2.cell (j := 0) rfl
        have k1 := hk2.cell (j := 1) rfl
        generalize (w1.setCell ⟨w.heap.size, 0, none⟩ (.int .i64 xk)).setCell ⟨w.heap.size, 1, none⟩ (.int .i64 xn) = w3 at *
        go_wp2_with fail
        go_ret
        exact ⟨rfl, hbn⟩
end
end Go.Proofs.YtklaeecegkpgmaaGreatDoor
