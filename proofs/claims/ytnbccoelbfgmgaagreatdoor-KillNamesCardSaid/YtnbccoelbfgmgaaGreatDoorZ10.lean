import Derived.Test.YtnbccoelbfgmgaaGreatDoorZ09
import Derived.Test.YtnbccoelbfgmgaaGreatDoorZ05
import Derived.Test.YtnbccoelbfgmgaaGreatDoorZ02
import Derived.Test.YtnbccoelbfgmgaaGreatDoorZ01
import Derived.Test.YtnbccoelbfgmgaaGreatDoorZ06
/- Package buffer: within, made, fits as checks. -/
namespace Go.Proofs.YtnbccoelbfgmgaaGreatDoor
open Go.RowKit
set_option linter.unusedVariables false
set_option linter.unusedSimpArgs false
section
variable {w w' : World} {P : Prop} {c : Chk} {b : Nat} {S : BS}
theorem al3 (w : World) (x y z : Value) (T U V : TypeId) :
    (((w.alloc (.cells #[x] T)).alloc (.cells #[y] U)).alloc (.cells #[z] V)).cell? ⟨w.heap.size, 0, none⟩ = some x ∧ (((w.alloc (.cells #[x] T)).alloc (.cells #[y] U)).alloc (.cells #[z] V)).cell? ⟨w.heap.size + 1, 0, none⟩ = some y ∧
    (((w.alloc (.cells #[x] T)).alloc (.cells #[y] U)).alloc (.cells #[z] V)).cell? ⟨w.heap.size + 2, 0, none⟩ = some z := by
  have h1 := (al2 w x y T U).1
  have h2 := (al2 (w.alloc (.cells #[x] T)) y z U V)
  have e1 : (w.alloc (.cells #[x] T)).heap.size = w.heap.size + 1 := by simp
  rw [e1] at h2
  refine ⟨?_, h2.1, h2.2⟩
  rw [World.cell?_of_block (w := (w.alloc (.cells #[x] T)).alloc (.cells #[y] U)) (a := ⟨w.heap.size, 0, none⟩) ((MapKept.heap_alloc _ _).2 _ (by simp; omega))]
  exact h1
theorem below3 (w : World) (x y z : Obj) : Below w.heap.size w (((w.alloc x).alloc y).alloc z) := (below2 w x y).alloc (by simp; omega) z
theorem cell_up {w w' : World} {k j : Nat} {v : Value} (h : w.cell? ⟨k, j, none⟩ = some v) (hb : Below w.heap.size w w') : w'.cell? ⟨k, j, none⟩ = some v := (World.cell?_of_block (w := w) (a := ⟨k, j, none⟩) (hb.block _ (lt_of_cell h))).trans h
def reachB (S : BS) (x y : Int) : Bool := decide ((S.lo : Int) ≤ x) && decide (x ≤ y) && decide (y ≤ (S.hi : Int))
set_option maxHeartbeats 1000000 in
theorem within1_ok {k0 k1 k2 : Nat} (h : BufB w b S) (x y : Int) (h0 : w.cell? ⟨k0, 0, none⟩ = some (pAt b)) (h1 : w.cell? ⟨k1, 0, none⟩ = some (.int .i64 x)) (h2 : w.cell? ⟨k2, 0, none⟩ = some (.int .i64 y)) :
    Calls Tryz.prog 101 #[pAt k0, pAt k1, pAt k2] w fun r w2 => r = .returned (.bool (reachB S x y)) ∧ Below w.heap.size w w2 := by
  have HR := Lib.hid (reach_ok h x y)
  clear h
  go_enter Tryz.func101, Tryz.ntmps101
  go_wp2_with fail
  refine HR.out.mono ?_
  rintro r w1 ⟨rfl, rfl⟩
  go_wp2_with fail
  go_ret
  exact ⟨rfl, Below.refl _ _⟩
set_option maxHeartbeats 1000000 in
theorem within_ok (h : BufB w b S) (x y : Int) : Calls Tryz.prog 55 #[pAt b, .int .i64 x, .int .i64 y] w fun r w' =>
    ∃ ke kf, r = .returned (unlC ke kf (if reachB S x y then 0 else 3)).val ∧ Below w.heap.size w w' ∧ ChkAt w' True (unlC ke kf (if reachB S x y then 0 else 3)) := by
  have HB := Lib.hid h
  clear h
  obtain ⟨E, hE⟩ : ∃ E : Int, (if reachB S x y then (0 : Int) else 3) = E := ⟨_, rfl⟩
  rw [hE]
  have HE := Lib.hid hE
  clear hE
  go_enter Tryz.func55, Tryz.ntmps55
  go_wp2_with fail
  have hb3 := below3 w (.cells #[pAt b] 26) (.cells #[.int .i64 x] 3) (.cells #[.int .i64 y] 3)
  obtain ⟨a0, a1, a2⟩ := al3 w (pAt b) (.int .i64 x) (.int .i64 y) 26 3 3
  generalize ((w.alloc (.cells #[pAt b] 26)).alloc (.cells #[.int .i64 x] 3)).alloc (.cells #[.int .i64 y] 3) = W at *
  refine (unless_ok 3 101 #[] #[pAt w.heap.size, pAt (w.heap.size + 1), pAt (w.heap.size + 2)] W).mono ?_
  rintro r w1 ⟨rfl, hb1, he, hf⟩
  go_wp2_with fail
  go_ret
  refine ⟨_, _, rfl, up2 hb3 hb1, HE.out ▸ ChkAt.unless (p := reachB S x y) (enters_mk Tryz.func101 (by kernel_rfl) rfl) he hf fun _ w2 hb2 => ?_⟩
  exact within1_ok (((HB.out.up hb3).up hb1).up hb2) x y (cell_up a0 (up2 hb1 hb2)) (cell_up a1 (up2 hb1 hb2)) (cell_up a2 (up2 hb1 hb2))
set_option maxHeartbeats 1000000 in
theorem bnoneB (h : BufB w b S) : Calls Tryz.prog 57 #[pAt b] w fun e w' => e = .returned (.bool false) ∧ w = w' := by
  have c9 := h.cell (j := 9) rfl
  clear h
  go_enter Tryz.func57, Tryz.ntmps57
  go_wp2_with fail
  go_ret
  exact ⟨rfl, rfl⟩
set_option maxHeartbeats 1000000 in
theorem made_ok (h : BufB w b S) : Calls Tryz.prog 54 #[pAt b] w fun e w' => e = .returned (.int .i64 0) ∧ w = w' := by
  have HN := Lib.hid (bnoneB h)
  clear h
  go_enter Tryz.func54, Tryz.ntmps54
  go_wp2_with fail
  refine HN.out.mono ?_
  rintro e w' ⟨rfl, rfl⟩
  go_wp2_with fail
  go_ret
  exact ⟨rfl, rfl⟩
abbrev madeC (b : Nat) : Chk := ⟨54, #[pAt b], #[], 0⟩
theorem ChkAt.made (h : BufB w b S) : ChkAt w True (madeC b) := ⟨enters_mk Tryz.func54 (by kernel_rfl) rfl, fun _ w1 hb => (made_ok (h.up hb)).mono fun _ _ ⟨h1, h2⟩ => ⟨h1, h2 ▸ Below.refl _ _⟩⟩
/-! ### fits -/
/-- What 'fits' answers: n characters there, less of them to go, the string s. -/
def fitsE (s : ByteArray) (n : Nat) (less : Int) : Int := if vld s = true then (if (65536 : Int) < (n : Int) - less + rlenG s then 4 else 0) else 5
set_option maxHeartbeats 1000000 in
theorem fits1_ok {N k0 k1 k2 n : Nat} (hT : Tabs N w) (h : BufB w b S) (s : ByteArray) (hs : s.size ≤ 1000000) (less : Int) (hl0 : 0 ≤ less) (hl1 : less ≤ n) (hn : n ≤ 1000000)
    (hS : ∀ w1, Below w.heap.size w w1 → Calls Tryz.prog 61 #[pAt S.t] w1 fun r w2 => r = .returned (.int .i64 n) ∧ Below w1.heap.size w1 w2)
    (h0 : w.cell? ⟨k0, 0, none⟩ = some (.string s)) (h1 : w.cell? ⟨k1, 0, none⟩ = some (pAt b)) (h2 : w.cell? ⟨k2, 0, none⟩ = some (.int .i64 less)) :
    Calls Tryz.prog 151 #[pAt k0, pAt k1, pAt k2] w fun r w2 => r = .returned (.int .i64 (fitsE s n less)) ∧ Below w.heap.size w w2 := by
  have hV := valid_any s w (by omega) hT
  have HT := Lib.hid hT
  have HB := Lib.hid h
  have HS := Lib.hid hS
  have HH0 := Lib.hid h0
  have HH1 := Lib.hid h1
  have HH2 := Lib.hid h2
  unfold fitsE
  clear hT h hS h1 h2
  cases hv : vld s with
  | false =>
    rw [hv] at hV
    go_enter Tryz.func151, Tryz.ntmps151
    go_wp2_with fail
    refine hV.mono ?_
    rintro r w1 ⟨rfl, hb1⟩
    go_wp2_with fail
    go_ret
    exact ⟨rfl, hb1⟩
  | true =>
    rw [hv] at hV
    have hlen : rlenG s ≤ s.size := by
      have := rlenG_chars (s := s) (by rw [← vld_chars]; exact hv)
      have := chrs_len s
      omega
    have HVV := Lib.hid hv
    rw [if_pos rfl]
    obtain ⟨R, hR⟩ : ∃ R : Int, R = if (65536 : Int) < (n : Int) - less + rlenG s then 4 else 0 := ⟨_, rfl⟩
    rw [← hR]
    have HR := Lib.hid hR
    clear hv hR
    go_enter Tryz.func151, Tryz.ntmps151
    go_wp2_with fail
    refine hV.mono ?_
    rintro r w1 ⟨rfl, hb1⟩
    clear hV h0
    have HB1 := Lib.hid hb1
    clear hb1
    go_wp2_with fail
    have q0 : ∀ x : UpW w1.heap.size w1, x.w.cell? ⟨k0, 0, none⟩ = some (.string s) := fun x => cell_up HH0.out (up2 HB1.out x.up)
    have q1 : ∀ x : UpW w1.heap.size w1, x.w.cell? ⟨k1, 0, none⟩ = some (pAt b) := fun x => cell_up HH1.out (up2 HB1.out x.up)
    have q2 : ∀ x : UpW w1.heap.size w1, x.w.cell? ⟨k2, 0, none⟩ = some (.int .i64 less) := fun x => cell_up HH2.out (up2 HB1.out x.up)
    have q9 : ∀ x : UpW w1.heap.size w1, x.w.cell? ⟨b, 9, none⟩ = some (pAt S.t) := fun x => ((HB.out.up HB1.out).up x.up).cell (j := 9) rfl
    have s1 : IntKind.i64.wrap ((n : Int) - less) = (n : Int) - less := IntWalk.i64_in _ (by omega)
    have s2 : IntKind.i64.wrap ((n : Int) - less + rlenG s) = (n : Int) - less + rlenG s := IntWalk.i64_in _ (by omega)
    have HSS := Lib.hid fun (x : UpW w1.heap.size w1) => HS.out x.w (up2 HB1.out x.up)
    have HLL := Lib.hid fun (x : UpW w1.heap.size w1) => runesLen s x.w (by omega) ((HT.out.up HB1.out).up x.up)
    refine wp_region_up w1.heap.size (by kernel_rfl) (by kernel_rfl) ?_
    repeat (go_big_quiet_step (first | exact Calls.up ‹_› (Nat.le_refl _) (HSS.out _) | exact Calls.up ‹_› (Nat.le_refl _) (HLL.out _)))
    refine wpQuiet_nil ?_
    rintro ⟨w2, hb2⟩
    dsimp only
    clear q0 q1 q2 q9
    by_cases hlt : (65536 : Int) < (n : Int) - less + rlenG s
    · have d1 : decide ((65536 : Int) < (n : Int) - less + rlenG s) = true := decide_eq_true hlt
      have hr : R = 4 := by rw [HR.out, if_pos hlt]
      subst hr
      go_wp2_with fail
      go_ret
      exact ⟨rfl, up2 HB1.out hb2⟩
    · have d1 : decide ((65536 : Int) < (n : Int) - less + rlenG s) = false := decide_eq_false hlt
      have hr : R = 0 := by rw [HR.out, if_neg hlt]
      subst hr
      go_wp2_with fail
      go_ret
      exact ⟨rfl, up2 HB1.out hb2⟩
/-- The check that 'fits' makes. -/
abbrev fitC (k0 k1 k2 : Nat) (e : Int) : Chk := ⟨151, #[], #[pAt k0, pAt k1, pAt k2], e⟩
set_option maxHeartbeats 1000000 in
theorem fits_ok {N n : Nat} (hT : Tabs N w) (h : BufB w b S) (s : ByteArray) (hs : s.size ≤ 1000000) (less : Int) (hn : n ≤ 1000000)
    (hS : ∀ w1, Below w.heap.size w w1 → Calls Tryz.prog 61 #[pAt S.t] w1 fun r w2 => r = .returned (.int .i64 n) ∧ Below w1.heap.size w1 w2) :
    Calls Tryz.prog 104 #[pAt b, .string s, .int .i64 less] w fun r w' => ∃ k0 k1 k2, r = .returned (fitC k0 k1 k2 (fitsE s n less)).val ∧ Below w.heap.size w w' ∧ ChkAt w' (0 ≤ less ∧ less ≤ n) (fitC k0 k1 k2 (fitsE s n less)) := by
  have HT := Lib.hid hT
  have HB := Lib.hid h
  have HS := Lib.hid hS
  clear hT h hS
  obtain ⟨E, hE⟩ : ∃ E : Int, fitsE s n less = E := ⟨_, rfl⟩
  rw [hE]
  have HE := Lib.hid hE
  clear hE
  go_enter Tryz.func104, Tryz.ntmps104
  go_wp2_with fail
  go_ret
  have hb3 := below3 w (.cells #[pAt b] 26) (.cells #[.string s] 9) (.cells #[.int .i64 less] 3)
  obtain ⟨a0, a1, a2⟩ := al3 w (pAt b) (.string s) (.int .i64 less) 26 9 3
  generalize ((w.alloc (.cells #[pAt b] 26)).alloc (.cells #[.string s] 9)).alloc (.cells #[.int .i64 less] 3) = W at *
  refine ⟨_, _, _, rfl, hb3, enters_mk Tryz.func151 (by kernel_rfl) rfl, fun ⟨p1, p2⟩ w1 hb1 => ?_⟩
  rw [← HE.out]
  exact fits1_ok ((HT.out.up hb3).up hb1) ((HB.out.up hb3).up hb1) s hs less p1 p2 hn (fun w2 hb2 => HS.out w2 (up2 hb3 (up2 hb1 hb2))) (cell_up a1 hb1) (cell_up a0 hb1) (cell_up a2 hb1)
end
end Go.Proofs.YtnbccoelbfgmgaaGreatDoor
/- Package buffer: locked, gapOpen. -/
namespace Go.Proofs.YtnbccoelbfgmgaaGreatDoor
open Go.RowKit
set_option linter.unusedVariables false
set_option linter.unusedSimpArgs false
abbrev wordV (x : Int × Int) : Value := .agg #[.int .i64 x.1, .int .i64 x.2]
/-- What props.Get hands back. -/
def getV (o : Option (Int × Int)) : Value := .tuple #[wordV (o.getD (0, 0)), .bool o.isSome]
/-- From w on, the properties at block p read by f. -/
def GetAt (w : World) (p : Nat) (f : Int → Int → Option (Int × Int)) : Prop := ∀ (at_ name : Int) (w1 : World), Below w.heap.size w w1 → Calls Tryz.prog 176 #[pAt p, .int .i64 at_, .int .i64 name] w1 fun r w2 => r = .returned (getV (f at_ name)) ∧ Below w1.heap.size w1 w2
def lockB (o : Option (Int × Int)) : Bool := match o with | none => false | some x => !(x == (1, 0))
section
variable {w w' : World} {b : Nat} {S : BS} {f : Int → Int → Option (Int × Int)}
theorem GetAt.up {p : Nat} (h : GetAt w p f) (hb : Below w.heap.size w w') : GetAt w' p f := fun a n w1 hb1 => h a n w1 (up2 hb hb1)
set_option maxRecDepth 100000 in
set_option maxHeartbeats 2000000 in
theorem locked_ok (h : BufB w b S) (hG : GetAt w S.p f) (at_ : Int) : Calls Tryz.prog 150 #[pAt b, .int .i64 at_] w fun r w2 => r = .returned (.bool (lockB (f at_ S.lock))) ∧ Below w.heap.size w w2 := by
  have C11 : ∀ x : UpW w.heap.size w, x.w.cell? ⟨b, 11, none⟩ = some (pAt S.p) := fun x => (h.up x.up).cell (j := 11) rfl
  have C16 : ∀ x : UpW w.heap.size w, x.w.cell? ⟨b, 16, none⟩ = some (.int .i64 S.lock) := fun x => (h.up x.up).cell (j := 16) rfl
  have HG := Lib.hid fun (w1 : World) (hb : Below w.heap.size w w1) => hG at_ S.lock w1 hb
  clear h hG
  obtain ⟨R, hR⟩ : ∃ R, lockB (f at_ S.lock) = R := ⟨_, rfl⟩
  rw [hR]
  have HR := Lib.hid hR
  clear hR
  have hb0 := below1 w
  go_enter Tryz.func150, Tryz.ntmps150
  go_wp2_with fail
  refine wp_region_mixT w.heap.size 16 (.two [0, 1, 2, 3, 4, 5, 6, 7, 8] 9 (.one [10, 11, 12] 13 (.one [] 14 (.done [15]))) 13 (.one [] 9 (.one [10, 11, 12] 14 (.done [15])))) (by kernel_rfl) (fun c d v a w h => by cases d <;> exact h) (by kernel_rfl) ?_
  simp only [wpMixT, pk_nil, pk_cons, pushAt_zero, pushAt_succ, List.drop_succ_cons, List.drop_zero]
  repeat (go_big_quiet_step (fail))
  refine wpQuiet_nil ?_
  clear C11 C16
  cases ho : f at_ S.lock with
  | none =>
    have HG1 : ∀ w1, Below w.heap.size w w1 → Calls Tryz.prog 176 #[pAt S.p, .int .i64 at_, .int .i64 S.lock] w1 fun r w2 => r = .returned (.tuple #[.agg #[.int .i64 0, .int .i64 0], .bool false]) ∧ Below w1.heap.size w1 w2 := fun w1 hb => by have := HG.out w1 hb; rw [ho] at this; exact this
    have HG := Lib.hid HG1
    clear HG1
    have hRf : R = false := by rw [← HR.out, ho]; rfl
    subst hRf
    refine ⟨?_, ?_⟩
    · go_wp2_with fail
      refine (HG.out _ (Below.refl _ w).drew).mono ?_
      rintro r w1 ⟨rfl, hb1⟩
      have hb1' : Below w.heap.size w w1 := up2 (Below.refl _ w).drew hb1
      go_wp2_with fail
      refine thenQ_normal ⟨⟨⟨_, hb1'⟩, rfl⟩, ?_⟩
      repeat (go_big_quiet_step (fail))
      refine wpQuiet_nil ?_
      go_wp2_with fail
      refine thenQ_normal ⟨⟨⟨_, hb1'.alloc hb1'.size _⟩, rfl⟩, ?_⟩
      refine wpQuiet_nil ?_
      go_wp2_with fail
      refine thenQ_normal ⟨⟨⟨_, hb1'.alloc hb1'.size _⟩, rfl⟩, ?_⟩
      repeat (go_big_quiet_step (fail))
      refine wpQuiet_nil ?_
      go_wp2_with fail
      go_ret
      exact ⟨rfl, hb1'.alloc hb1'.size _⟩
    · go_wp2_with fail
      refine thenQ_normal ⟨⟨⟨_, (Below.refl _ w).drew.alloc (Nat.le_refl _) _⟩, rfl⟩, ?_⟩
      refine wpQuiet_nil ?_
      have hk : Blk (w.drew.alloc (.cells #[.int .i64 0, .int .i64 0] 117)) w.heap.size 117 #[.int .i64 0, .int .i64 0] := Blk.made w.drew 117 #[.int .i64 0, .int .i64 0]
      have hbk : Below w.heap.size w (w.drew.alloc (.cells #[.int .i64 0, .int .i64 0] 117)) := (Below.refl _ w).drew.alloc (Nat.le_refl _) _
      go_wp2_with fail
      refine (HG.out _ hbk).mono ?_
      rintro r w1 ⟨rfl, hb1⟩
      have hb1' : Below w.heap.size w w1 := up2 hbk hb1
      have hk1 := hk.up hb1
      have k0 := hk1.cell (j := 0) rfl
      have k1 := hk1.cell (j := 1) rfl
      have f0 := hk1.fz 0
      have f1 := hk1.fz 1
      go_wp2_with fail
      refine thenQ_normal ⟨⟨⟨_, hb1'⟩, rfl⟩, ?_⟩
      repeat (go_big_quiet_step (fail))
      refine wpQuiet_nil ?_
      go_wp2_with fail
      refine thenQ_normal ⟨⟨⟨_, (hb1'.setCell (p := ⟨w.heap.size, 0, none⟩) (Nat.le_refl _) _).setCell (p := ⟨w.heap.size, 1, none⟩) (Nat.le_refl _) _⟩, rfl⟩, ?_⟩
      repeat (go_big_quiet_step (fail))
      refine wpQuiet_nil ?_
      clear k0 k1 f0 f1
      have hbn := (hb1'.setCell (p := ⟨w.heap.size, 0, none⟩) (Nat.le_refl _) (.int .i64 0)).setCell (p := ⟨w.heap.size, 1, none⟩) (Nat.le_refl _) (.int .i64 0)
      have hk2 := (hk1.set (j := 0) (by simp) (.int .i64 0)).set (j := 1) (by simp) (.int .i64 0)
      have k0 := hk2.cell (j := 0) rfl
      have k1 := hk2.cell (j := 1) rfl
      generalize (w1.setCell ⟨w.heap.size, 0, none⟩ (.int .i64 0)).setCell ⟨w.heap.size, 1, none⟩ (.int .i64 0) = w3 at *
      go_wp2_with fail
      go_ret
      exact ⟨rfl, hbn⟩
  | some x =>
    obtain ⟨xk, xn⟩ := x
    have HG1 : ∀ w1, Below w.heap.size w w1 → Calls Tryz.prog 176 #[pAt S.p, .int .i64 at_, .int .i64 S.lock] w1 fun r w2 => r = .returned (.tuple #[.agg #[.int .i64 xk, .int .i64 xn], .bool true]) ∧ Below w1.heap.size w1 w2 := fun w1 hb => by have := HG.out w1 hb; rw [ho] at this; exact this
    have HG := Lib.hid HG1
    clear HG1
    have hRf : R = !((xk, xn) == ((1, 0) : Int × Int)) := by rw [← HR.out, ho]; rfl
    by_cases hk1 : xk = 1
    · by_cases hn0 : xn = 0
      · subst hk1 hn0
        have hRt : R = false := by rw [hRf]; rfl
        clear hRf
        subst hRt
        refine ⟨?_, ?_⟩
        · go_wp2_with fail
          refine (HG.out _ (Below.refl _ w).drew).mono ?_
          rintro r w1 ⟨rfl, hb1⟩
          have hb1' : Below w.heap.size w w1 := up2 (Below.refl _ w).drew hb1
          go_wp2_with fail
          refine thenQ_normal ⟨⟨⟨_, hb1'⟩, rfl⟩, ?_⟩
          repeat (go_big_quiet_step (fail))
          refine wpQuiet_nil ?_
          go_wp2_with fail
          refine thenQ_normal ⟨⟨⟨_, hb1'.alloc hb1'.size _⟩, rfl⟩, ?_⟩
          refine wpQuiet_nil ?_
          go_wp2_with fail
          refine thenQ_normal ⟨⟨⟨_, hb1'.alloc hb1'.size _⟩, rfl⟩, ?_⟩
          repeat (go_big_quiet_step (fail))
          refine wpQuiet_nil ?_
          go_wp2_with fail
          go_ret
          exact ⟨rfl, hb1'.alloc hb1'.size _⟩
        · go_wp2_with fail
          refine thenQ_normal ⟨⟨⟨_, (Below.refl _ w).drew.alloc (Nat.le_refl _) _⟩, rfl⟩, ?_⟩
          refine wpQuiet_nil ?_
          have hk : Blk (w.drew.alloc (.cells #[.int .i64 0, .int .i64 0] 117)) w.heap.size 117 #[.int .i64 0, .int .i64 0] := Blk.made w.drew 117 #[.int .i64 0, .int .i64 0]
          have hbk : Below w.heap.size w (w.drew.alloc (.cells #[.int .i64 0, .int .i64 0] 117)) := (Below.refl _ w).drew.alloc (Nat.le_refl _) _
          go_wp2_with fail
          refine (HG.out _ hbk).mono ?_
          rintro r w1 ⟨rfl, hb1⟩
          have hb1' : Below w.heap.size w w1 := up2 hbk hb1
          have hk1 := hk.up hb1
          have k0 := hk1.cell (j := 0) rfl
          have k1 := hk1.cell (j := 1) rfl
          have f0 := hk1.fz 0
          have f1 := hk1.fz 1
          go_wp2_with fail
          refine thenQ_normal ⟨⟨⟨_, hb1'⟩, rfl⟩, ?_⟩
          repeat (go_big_quiet_step (fail))
          refine wpQuiet_nil ?_
          go_wp2_with fail
          refine thenQ_normal ⟨⟨⟨_, (hb1'.setCell (p := ⟨w.heap.size, 0, none⟩) (Nat.le_refl _) _).setCell (p := ⟨w.heap.size, 1, none⟩) (Nat.le_refl _) _⟩, rfl⟩, ?_⟩
          repeat (go_big_quiet_step (fail))
          refine wpQuiet_nil ?_
          clear k0 k1 f0 f1
          have hbn := (hb1'.setCell (p := ⟨w.heap.size, 0, none⟩) (Nat.le_refl _) (.int .i64 1)).setCell (p := ⟨w.heap.size, 1, none⟩) (Nat.le_refl _) (.int .i64 0)
          have hk2 := (hk1.set (j := 0) (by simp) (.int .i64 1)).set (j := 1) (by simp) (.int .i64 0)
          have k0 := hk2.cell (j := 0) rfl
          have k1 := hk2.cell (j := 1) rfl
          generalize (w1.setCell ⟨w.heap.size, 0, none⟩ (.int .i64 1)).setCell ⟨w.heap.size, 1, none⟩ (.int .i64 0) = w3 at *
          go_wp2_with fail
          go_ret
          exact ⟨rfl, hbn⟩
      · have hRt : R = true := by rw [hRf, hk1]; simp [hn0]
        subst hk1
        have e0 : (xn == 0) = false := by simp [hn0]
        clear hRf
        subst hRt
        refine ⟨?_, ?_⟩
        · go_wp2_with fail
          refine (HG.out _ (Below.refl _ w).drew).mono ?_
          rintro r w1 ⟨rfl, hb1⟩
          have hb1' : Below w.heap.size w w1 := up2 (Below.refl _ w).drew hb1
          go_wp2_with fail
          refine thenQ_normal ⟨⟨⟨_, hb1'⟩, rfl⟩, ?_⟩
          repeat (go_big_quiet_step (fail))
          refine wpQuiet_nil ?_
          go_wp2_with fail
          refine thenQ_normal ⟨⟨⟨_, hb1'.alloc hb1'.size _⟩, rfl⟩, ?_⟩
          refine wpQuiet_nil ?_
          go_wp2_with fail
          refine thenQ_normal ⟨⟨⟨_, hb1'.alloc hb1'.size _⟩, rfl⟩, ?_⟩
          repeat (go_big_quiet_step (fail))
          refine wpQuiet_nil ?_
          go_wp2_with fail
          go_ret
          exact ⟨rfl, hb1'.alloc hb1'.size _⟩
        · go_wp2_with fail
          refine thenQ_normal ⟨⟨⟨_, (Below.refl _ w).drew.alloc (Nat.le_refl _) _⟩, rfl⟩, ?_⟩
          refine wpQuiet_nil ?_
          have hk : Blk (w.drew.alloc (.cells #[.int .i64 0, .int .i64 0] 117)) w.heap.size 117 #[.int .i64 0, .int .i64 0] := Blk.made w.drew 117 #[.int .i64 0, .int .i64 0]
          have hbk : Below w.heap.size w (w.drew.alloc (.cells #[.int .i64 0, .int .i64 0] 117)) := (Below.refl _ w).drew.alloc (Nat.le_refl _) _
          go_wp2_with fail
          refine (HG.out _ hbk).mono ?_
          rintro r w1 ⟨rfl, hb1⟩
          have hb1' : Below w.heap.size w w1 := up2 hbk hb1
          have hk1 := hk.up hb1
          have k0 := hk1.cell (j := 0) rfl
          have k1 := hk1.cell (j := 1) rfl
          have f0 := hk1.fz 0
          have f1 := hk1.fz 1
          go_wp2_with fail
          refine thenQ_normal ⟨⟨⟨_, hb1'⟩, rfl⟩, ?_⟩
          repeat (go_big_quiet_step (fail))
          refine wpQuiet_nil ?_
          go_wp2_with fail
          refine thenQ_normal ⟨⟨⟨_, (hb1'.setCell (p := ⟨w.heap.size, 0, none⟩) (Nat.le_refl _) _).setCell (p := ⟨w.heap.size, 1, none⟩) (Nat.le_refl _) _⟩, rfl⟩, ?_⟩
          repeat (go_big_quiet_step (fail))
          refine wpQuiet_nil ?_
          clear k0 k1 f0 f1
          have hbn := (hb1'.setCell (p := ⟨w.heap.size, 0, none⟩) (Nat.le_refl _) (.int .i64 1)).setCell (p := ⟨w.heap.size, 1, none⟩) (Nat.le_refl _) (.int .i64 xn)
          have hk2 := (hk1.set (j := 0) (by simp) (.int .i64 1)).set (j := 1) (by simp) (.int .i64 xn)
          have k0 := hk2.cell (j := 0) rfl
          have k1 := hk2.cell (j := 1) rfl
          generalize (w1.setCell ⟨w.heap.size, 0, none⟩ (.int .i64 1)).setCell ⟨w.heap.size, 1, none⟩ (.int .i64 xn) = w3 at *
          go_wp2_with fail
          go_ret
          exact ⟨rfl, hbn⟩
    · have hRt : R = true := by rw [hRf]; simp [hk1]
      have e0 : (xk == 1) = false := by simp [hk1]
      clear hRf
      subst hRt
      refine ⟨?_, ?_⟩
      · go_wp2_with fail
        refine (HG.out _ (Below.refl _ w).drew).mono ?_
        rintro r w1 ⟨rfl, hb1⟩
        have hb1' : Below w.heap.size w w1 := up2 (Below.refl _ w).drew hb1
        go_wp2_with fail
        refine thenQ_normal ⟨⟨⟨_, hb1'⟩, rfl⟩, ?_⟩
        repeat (go_big_quiet_step (fail))
        refine wpQuiet_nil ?_
        go_wp2_with fail
        refine thenQ_normal ⟨⟨⟨_, hb1'.alloc hb1'.size _⟩, rfl⟩, ?_⟩
        refine wpQuiet_nil ?_
        go_wp2_with fail
        refine thenQ_normal ⟨⟨⟨_, hb1'.alloc hb1'.size _⟩, rfl⟩, ?_⟩
        repeat (go_big_quiet_step (fail))
        refine wpQuiet_nil ?_
        go_wp2_with fail
        go_ret
        exact ⟨rfl, hb1'.alloc hb1'.size _⟩
      · go_wp2_with fail
        refine thenQ_normal ⟨⟨⟨_, (Below.refl _ w).drew.alloc (Nat.le_refl _) _⟩, rfl⟩, ?_⟩
        refine wpQuiet_nil ?_
        have hk : Blk (w.drew.alloc (.cells #[.int .i64 0, .int .i64 0] 117)) w.heap.size 117 #[.int .i64 0, .int .i64 0] := Blk.made w.drew 117 #[.int .i64 0, .int .i64 0]
        have hbk : Below w.heap.size w (w.drew.alloc (.cells #[.int .i64 0, .int .i64 0] 117)) := (Below.refl _ w).drew.alloc (Nat.le_refl _) _
        go_wp2_with fail
        refine (HG.out _ hbk).mono ?_
        rintro r w1 ⟨rfl, hb1⟩
        have hb1' : Below w.heap.size w w1 := up2 hbk hb1
        have hk1 := hk.up hb1
        have k0 := hk1.cell (j := 0) rfl
        have k1 := hk1.cell (j := 1) rfl
        have f0 := hk1.fz 0
        have f1 := hk1.fz 1
        go_wp2_with fail
        refine thenQ_normal ⟨⟨⟨_, hb1'⟩, rfl⟩, ?_⟩
        repeat (go_big_quiet_step (fail))
        refine wpQuiet_nil ?_
        go_wp2_with fail
        refine thenQ_normal ⟨⟨⟨_, (hb1'.setCell (p := ⟨w.heap.size, 0, none⟩) (Nat.le_refl _) _).setCell (p := ⟨w.heap.size, 1, none⟩) (Nat.le_refl _) _⟩, rfl⟩, ?_⟩
        repeat (go_big_quiet_step (fail))
        refine wpQuiet_nil ?_
        clear k0 k1 f0 f1
        have hbn := (hb1'.setCell (p := ⟨w.heap.size, 0, none⟩) (Nat.le_refl _) (.int .i64 xk)).setCell (p := ⟨w.heap.size, 1, none⟩) (Nat.le_refl _) (.int .i64 xn)
        have hk2 := (hk1.set (j := 0) (by simp) (.int .i64 xk)).set (j := 1) (by simp) (.int .i64 xn)
        have k0 := hk2.cell (j := 0) rfl
        have k1 := hk2.cell (j := 1) rfl
        generalize (w1.setCell ⟨w.heap.size, 0, none⟩ (.int .i64 xk)).setCell ⟨w.heap.size, 1, none⟩ (.int .i64 xn) = w3 at *
        go_wp2_with fail
        go_ret
        exact ⟨rfl, hbn⟩
end
end Go.Proofs.YtnbccoelbfgmgaaGreatDoor
/- What an insertion does to no marks, no properties, no overlays. -/
namespace Go.Proofs.YtnbccoelbfgmgaaGreatDoor
open Go.RowKit
set_option linter.unusedVariables false
set_option linter.unusedSimpArgs false
section
variable {w w' : World} {p m o mm : Nat}
/-! ### properties -/
abbrev prC : Array Value := #[.slice none 0 0, .bool true]
set_option maxHeartbeats 1000000 in
theorem pnone0 (h : Blk w p 183 prC) : Calls Tryz.prog 140 #[pAt p] w fun e w' => e = .returned (.bool false) ∧ w = w' := by
  have c1 := h.cell (j := 1) rfl
  clear h
  go_enter Tryz.func140, Tryz.ntmps140
  go_wp2_with fail
  go_ret
  exact ⟨rfl, rfl⟩
set_option maxHeartbeats 1000000 in
theorem pbsf0 (at_ : Int) (F : FuncId) (w : World) : Calls Tryz.prog 277 #[.slice none 0 0, .int .i64 at_, .func (.func F) #[] #[]] w fun e w' => e = .returned (.tuple #[.int .i64 0, .bool false]) ∧ w = w' := by
  go_enter Tryz.func277, Tryz.ntmps277
  go_wp2_with fail
  go_loopw [9, 10] (fun va vb wr => va = .int .i64 0 ∧ vb = .int .i64 0 ∧ w = wr) (fun _ _ _ => 0)
  case atStart => exact ⟨rfl, rfl, rfl⟩
  case round =>
    obtain ⟨rfl, rfl, rfl⟩ := hrel
    go_wp2_with fail
    go_ret2
    exact ⟨rfl, rfl⟩
set_option maxHeartbeats 1000000 in
theorem pfirst0 (at_ : Int) (w : World) : Calls Tryz.prog 257 #[.slice none 0 0, .int .i64 at_] w fun e w' => e = .returned (.int .i64 0) ∧ w = w' := by
  have HB := Lib.hid (pbsf0 at_ 278 w)
  go_enter Tryz.func257, Tryz.ntmps257
  go_wp2_with fail
  refine HB.out.mono ?_
  rintro e w' ⟨rfl, rfl⟩
  go_wp2_with fail
  go_ret
  exact ⟨rfl, rfl⟩
set_option maxHeartbeats 1000000 in
theorem plist0 (at_ : Int) (h : Blk w p 183 prC) : Calls Tryz.prog 235 #[pAt p, .int .i64 at_] w fun e w' => e = .returned (.slice none 0 0) ∧ w = w' := by
  have HN := Lib.hid (pnone0 h)
  have HF := Lib.hid (pfirst0 at_ w)
  have c0 := h.cell (j := 0) rfl
  clear h
  go_enter Tryz.func235, Tryz.ntmps235
  go_wp2_with fail
  refine HN.out.mono ?_
  rintro e w' ⟨rfl, rfl⟩
  go_wp2_with fail
  refine HF.out.mono ?_
  rintro e w' ⟨rfl, rfl⟩
  go_wp2_with fail
  go_ret
  exact ⟨rfl, rfl⟩
set_option maxHeartbeats 1000000 in
theorem pget0 (name : Int) (w : World) : Calls Tryz.prog 234 #[.slice none 0 0, .int .i64 name] w fun e w' => e = .returned (.tuple #[.agg #[.int .i64 0, .int .i64 0], .bool false]) ∧ Below w.heap.size w w' := by
  have hb := below1 w (.cells #[.int .i64 0, .int .i64 0] 117)
  have HB := Lib.hid hb
  clear hb
  have hk := Blk.made w 117 #[.int .i64 0, .int .i64 0]
  have k0 := hk.cell (j := 0) rfl
  have k1 := hk.cell (j := 1) rfl
  have f0 := hk.fz 0
  have f1 := hk.fz 1
  clear hk
  go_enter Tryz.func234, Tryz.ntmps234
  go_wp2_with fail
  go_loopw [10] (fun va wr => va = .int .i64 0 ∧ wr = w.alloc (.cells #[.int .i64 0, .int .i64 0] 117)) (fun _ _ => 0)
  case atStart => exact ⟨rfl, rfl⟩
  case round =>
    obtain ⟨rfl, rfl⟩ := hrel
    go_wp2_with fail
    refine bodyPost_ret (v := .tuple #[.agg #[.int .i64 0, .int .i64 0], .bool false]) (by simp [results, Tryz.f234, go_sem, k0, k1]) rfl ?_
    exact ⟨rfl, HB.out⟩
set_option maxHeartbeats 1000000 in
theorem pGet0 (at_ name : Int) (h : Blk w p 183 prC) : Calls Tryz.prog 176 #[pAt p, .int .i64 at_, .int .i64 name] w fun e w' => e = .returned (.tuple #[.agg #[.int .i64 0, .int .i64 0], .bool false]) ∧ Below w.heap.size w w' := by
  have hb := below1 w (.cells #[.int .i64 0, .int .i64 0] 117)
  have H := Lib.hid (h.up hb)
  have hk := Blk.made w 117 #[.int .i64 0, .int .i64 0]
  have HB := Lib.hid hb
  have HK := Lib.hid hk
  clear hb h hk
  go_enter Tryz.func176, Tryz.ntmps176
  go_wp2_with fail
  generalize w.alloc (.cells #[.int .i64 0, .int .i64 0] 117) = W at *
  refine (plist0 at_ H.out).mono ?_
  rintro e w' ⟨rfl, rfl⟩
  go_wp2_with fail
  refine (pget0 name W).mono ?_
  rintro e w1 ⟨rfl, hb1⟩
  have hk1 := HK.out.up hb1
  have k0 := hk1.cell (j := 0) rfl
  have k1 := hk1.cell (j := 1) rfl
  have f0 := hk1.fz 0
  have f1 := hk1.fz 1
  go_wp2_with fail
  have hk2 := (hk1.set (j := 0) (by simp) (.int .i64 0)).set (j := 1) (by simp) (.int .i64 0)
  have k0 := hk2.cell (j := 0) rfl
  have k1 := hk2.cell (j := 1) rfl
  refine bodyPost_ret (v := .tuple #[.agg #[.int .i64 0, .int .i64 0], .bool false]) (by simp [results, Tryz.f176, go_sem, k0, k1]) rfl ?_
  exact ⟨rfl, ((HB.out.trans (hb1.mono HB.out.size)).setCell (p := ⟨w.heap.size, 0, none⟩) (Nat.le_refl _) _).setCell (p := ⟨w.heap.size, 1, none⟩) (Nat.le_refl _) _⟩
theorem getAt0 (h : Blk w p 183 prC) : GetAt w p (fun _ _ => none) := fun a n w1 hb => pGet0 a n (h.up hb)
set_option maxHeartbeats 1000000 in
theorem pins0 (a n : Int) (h1 : 1 ≤ a) (h2 : a ≤ 65537) (h3 : 0 ≤ n) (h4 : n ≤ 65536) (h : Blk w p 183 prC) : Calls Tryz.prog 154 #[pAt p, .int .i64 a, .int .i64 n] w fun e w' => e = .returned (.int .i64 0) ∧ Only (fun k => k = p) w w' ∧ Blk w' p 183 prC := by
  have d1 : decide (a < 1) = false := decide_eq_false (by omega)
  have d2 : decide ((65537 : Int) < a) = false := decide_eq_false (by omega)
  have d3 : decide (n < 0) = false := decide_eq_false (by omega)
  have d4 : decide ((65536 : Int) < n) = false := decide_eq_false (by omega)
  have HN := Lib.hid (pnone0 h)
  have c0 := h.cell (j := 0) rfl
  have f0 := h.fz 0
  have H := Lib.hid h
  clear h h1 h2 h3 h4
  go_enter Tryz.func154, Tryz.ntmps154
  go_wp2_with fail
  refine HN.out.mono ?_
  rintro e w' ⟨rfl, rfl⟩
  go_wp2_with fail
  go_loopw [8, 68] (fun va vb wr => va = .slice none 0 0 ∧ vb = .int .i64 0 ∧ w = wr) (fun _ _ _ => 0)
  case atStart => exact ⟨rfl, rfl, rfl⟩
  case round =>
    obtain ⟨rfl, rfl, rfl⟩ := hrel
    go_wp2_with fail
    go_ret
    refine ⟨rfl, Only.setCell (S := fun k => k = p) (p := ⟨p, 0, none⟩) (Only.refl _ w) rfl _, ?_⟩
    exact H.out.set (j := 0) (by simp) (.slice none 0 0)
/-! ### overlays -/
abbrev ovC (x y : Int) : Array Value := #[.int .i64 x, .int .i64 y, .slice none 0 0, .int .i64 0, .bool true]
set_option maxHeartbeats 1000000 in
theorem ovalid0 (x y : Int) (h : Blk w o 186 (ovC x y)) : Calls Tryz.prog 142 #[pAt o] w fun e w' => e = .returned (.bool true) ∧ w = w' := by
  have c1 := h.cell (j := 4) rfl
  clear h
  go_enter Tryz.func142, Tryz.ntmps142
  go_wp2_with fail
  go_ret
  exact ⟨rfl, rfl⟩
set_option maxHeartbeats 1000000 in
theorem oplace_ok (a : Int) (h1 : 1 ≤ a) (h2 : a ≤ 1099511627776) (w : World) : Calls Tryz.prog 195 #[.int .i64 a] w fun e w' => e = .returned (.bool true) ∧ w = w' := by
  have d1 : decide ((1 : Int) ≤ a) = true := decide_eq_true h1
  have d2 : decide (a ≤ (1099511627776 : Int)) = true := decide_eq_true h2
  clear h1 h2
  go_enter Tryz.func195, Tryz.ntmps195
  go_wp2_with fail
  go_ret
  exact ⟨rfl, rfl⟩
set_option maxHeartbeats 1000000 in
theorem oapply0 (x y : Int) (v : Value) (h : Blk w o 186 (ovC x y)) : Calls Tryz.prog 197 #[pAt o, v] w fun e w' => e = .returned (.tuple #[]) ∧ w = w' := by
  have c2 := h.cell (j := 2) rfl
  clear h
  go_enter Tryz.func197, Tryz.ntmps197
  go_wp2_with fail
  go_loopw [11] (fun va wr => va = .int .i64 0 ∧ w = wr) (fun _ _ => 0)
  case atStart => exact ⟨rfl, rfl⟩
  case round =>
    obtain ⟨rfl, rfl⟩ := hrel
    go_wp2_with fail
    go_end0
    exact ⟨rfl, rfl⟩
set_option maxHeartbeats 1000000 in
theorem oins0 (x y : Int) (a n : Int) (h1 : 1 ≤ a) (h2 : a ≤ 65537) (h3 : 0 ≤ n) (h4 : n ≤ 65536) (h : Blk w o 186 (ovC x y)) : Calls Tryz.prog 155 #[pAt o, .int .i64 a, .int .i64 n] w fun e w' => e = .returned (.int .i64 0) ∧ Below w.heap.size w w' := by
  have d3 : decide (n < 0) = false := decide_eq_false (by omega)
  have d4 : decide ((65536 : Int) < n) = false := decide_eq_false (by omega)
  have HP := Lib.hid (oplace_ok a h1 (by omega) w)
  have HN := Lib.hid (ovalid0 x y h)
  have hb := below1 w (.cells #[.int .i64 a, .int .i64 n] 253)
  have H := Lib.hid (h.up hb)
  have hk := Blk.made w 253 #[.int .i64 a, .int .i64 n]
  have k0 := hk.cell (j := 0) rfl
  have k1 := hk.cell (j := 1) rfl
  have c2 := (h.up hb).cell (j := 2) rfl
  have HB := Lib.hid hb
  clear h h1 h2 h3 h4 hb hk
  go_enter Tryz.func155, Tryz.ntmps155
  go_wp2_with fail
  refine HN.out.mono ?_
  rintro e w' ⟨rfl, rfl⟩
  go_wp2_with fail
  refine HP.out.mono ?_
  rintro e w' ⟨rfl, rfl⟩
  go_wp2_with fail
  generalize w.alloc (.cells #[.int .i64 a, .int .i64 n] 253) = W at *
  go_loopw [35] (fun va wr => va = .int .i64 0 ∧ W = wr) (fun _ _ => 0)
  case atStart => exact ⟨rfl, rfl⟩
  case round =>
    obtain ⟨rfl, rfl⟩ := hrel
    go_wp2_with fail
    refine (oapply0 x y _ H.out).mono ?_
    rintro e w' ⟨rfl, rfl⟩
    go_wp2_with fail
    go_ret
    exact ⟨rfl, HB.out⟩
end
end Go.Proofs.YtnbccoelbfgmgaaGreatDoor
/- What an insertion does to no marks. -/
namespace Go.Proofs.YtnbccoelbfgmgaaGreatDoor
open Go.RowKit
set_option linter.unusedVariables false
set_option linter.unusedSimpArgs false
section
variable {w w' : World} {m mm : Nat}
abbrev encU (x : Unit) : Value := .int .i64 0
theorem mapT0 : Tryz.prog.underlying 178 = some (.map 3 205) := Tryz.underlying178
theorem neqMap0 (w : World) (r : Option Nat) : (binOp .neq 178 (.map r) (.map none)).run Tryz.prog w = .ok (.bool (!r.isNone)) w := run_neq_map_nil w _ _ _ r mapT0
/-- No marks: the object at block m, its map at block mm. -/
structure Mk0 (w : World) (m mm : Nat) : Prop where
  blk : Blk w m 180 #[.map (some mm), .int .i64 0]
  im : IM w mm encU []
theorem Mk0.up (h : Mk0 w m mm) (hb : Below w.heap.size w w') : Mk0 w' m mm := ⟨h.blk.up hb, by
  obtain ⟨l, c, h2, e⟩ := h.im
  exact ⟨l, c, ⟨(hb.block mm (Array.getElem?_eq_some_iff.1 h2.block).1).trans h2.block, h2.keys, h2.borns, h2.old⟩, e⟩⟩
theorem Mk0.made (h1 : Blk w m 180 #[.map (some mm), .int .i64 0]) (h2 : w.heap[mm]? = some (.map #[] 0)) : Mk0 w m mm := ⟨h1, [], 0, ⟨h2, List.nodup_nil, List.nodup_nil, fun x hx => by cases hx⟩, rfl⟩
set_option maxHeartbeats 1000000 in
theorem mmade0 (h : Mk0 w m mm) : Calls Tryz.prog 138 #[pAt m] w fun e w' => e = .returned (.bool true) ∧ w = w' := by
  have c0 := h.blk.cell (j := 0) rfl
  have hne := neqMap0 w (some mm)
  simp only [Option.isNone_some, Bool.not_false] at hne
  clear h
  go_enter Tryz.func138, Tryz.ntmps138
  go_wp2_with fail
  go_ret
  exact ⟨rfl, rfl⟩
set_option maxHeartbeats 1000000 in
theorem mplace_ok (a : Int) (h1 : 1 ≤ a) (h2 : a ≤ 1099511627776) (w : World) : Calls Tryz.prog 179 #[.int .i64 a] w fun e w' => e = .returned (.bool true) ∧ w = w' := by
  have d1 : decide ((1 : Int) ≤ a) = true := decide_eq_true h1
  have d2 : decide (a ≤ (1099511627776 : Int)) = true := decide_eq_true h2
  clear h1 h2
  go_enter Tryz.func179, Tryz.ntmps179
  go_wp2_with fail
  go_ret
  exact ⟨rfl, rfl⟩
set_option maxHeartbeats 1000000 in
theorem mchange0 (F : FuncId) (cp : Array Value) (h : Mk0 w m mm) : Calls Tryz.prog 193 #[pAt m, .func (.func F) #[] cp] w fun e w' => e = .returned (.tuple #[]) ∧ Below w.heap.size w w' := by
  have c0 := h.blk.cell (j := 0) rfl
  obtain ⟨w1, hrange, hir, hb1, hs1⟩ := h.im.range (P := Tryz.prog) mapT0
  clear h
  go_enter Tryz.func193, Tryz.ntmps193
  go_wp2_with fail
  clear hrange
  go_loopw [4] (fun _ wr => w1 = wr) (fun _ _ => 0)
  case atStart => rfl
  case round =>
    subst hrel
    rcases hir.next (P := Tryz.prog) with ⟨h0, hnx⟩ | ⟨k, v, w2, hk, _⟩
    · go_wp2_with fail
      go_end0
      exact ⟨rfl, hb1⟩
    · cases hk
set_option maxHeartbeats 1000000 in
theorem mins0 (a n : Int) (ah : Bool) (h1 : 1 ≤ a) (h2 : a ≤ 65537) (h3 : 0 ≤ n) (h4 : n ≤ 65536) (h : Mk0 w m mm) : Calls Tryz.prog 153 #[pAt m, .int .i64 a, .int .i64 n, .bool ah] w fun e w' => e = .returned (.int .i64 0) ∧ Below w.heap.size w w' := by
  have d3 : decide (n < 0) = false := decide_eq_false (by omega)
  have d4 : decide ((65536 : Int) < n) = false := decide_eq_false (by omega)
  have hb := below3 w (.cells #[.int .i64 a] 3) (.cells #[.int .i64 n] 3) (.cells #[.bool ah] 4)
  obtain ⟨a0, a1, a2⟩ := al3 w (.int .i64 a) (.int .i64 n) (.bool ah) 3 3 4
  have H := Lib.hid (h.up hb)
  have HB := Lib.hid hb
  have HP := Lib.hid fun W => mplace_ok a h1 (by omega) W
  clear h hb h1 h2 h3 h4
  go_enter Tryz.func153, Tryz.ntmps153
  go_wp2_with fail
  generalize ((w.alloc (.cells #[.int .i64 a] 3)).alloc (.cells #[.int .i64 n] 3)).alloc (.cells #[.bool ah] 4) = W at *
  refine (mmade0 H.out).mono ?_
  rintro e w' ⟨rfl, rfl⟩
  go_wp2_with fail
  refine (HP.out _).mono ?_
  rintro e w' ⟨rfl, rfl⟩
  have c0 := H.out.blk.cell (j := 0) rfl
  obtain ⟨w1, hrange, hir, hb1, hs1⟩ := H.out.im.range (P := Tryz.prog) mapT0
  go_wp2_with fail
  clear hrange
  have H1 := Lib.hid (H.out.up hb1)
  go_loopw [8] (fun _ wr => w1 = wr) (fun _ _ => 0)
  case atStart => rfl
  case round =>
    subst hrel
    rcases hir.next (P := Tryz.prog) with ⟨h0, hnx⟩ | ⟨k, v, w2, hk, _⟩
    · go_wp2_with fail
      refine (mchange0 _ _ H1.out).mono ?_
      rintro e w2 ⟨rfl, hb2⟩
      go_wp2_with fail
      go_ret
      exact ⟨rfl, up2 HB.out (up2 hb1 hb2)⟩
    · cases hk
end
end Go.Proofs.YtnbccoelbfgmgaaGreatDoor
/- gap.New of the empty string; buffer.New. -/
namespace Go.Proofs.YtnbccoelbfgmgaaGreatDoor
open Go.RowKit
set_option linter.unusedVariables false
set_option linter.unusedSimpArgs false
section
variable {w w' : World} {t g b : Nat}
set_option maxHeartbeats 1000000 in
theorem ggrowE (f : Value) (h : Blk w t 164 (txtC g 0 0 0 0 f)) : Calls Tryz.prog 181 #[pAt t, .int .i64 0] w fun e w' => e = .returned (.tuple #[]) ∧ Below w.heap.size w w' := by
  have c1 := h.cell (j := 1) rfl
  have c2 := h.cell (j := 2) rfl
  clear h
  go_enter Tryz.func181, Tryz.ntmps181
  go_wp2_with fail
  go_region
  go_wp2_with fail
  refine bodyPost_ret (results_none rfl _ _ _) rfl ?_
  exact ⟨rfl, (Below.refl _ w).drew⟩
set_option maxHeartbeats 1000000 in
theorem sinsertE (w : World) : Calls Tryz.prog 183 #[.slice none 0 0, .int .i64 0, .slice none 0 0] w fun e w' => e = .returned (.slice none 0 0) ∧ w = w' := by
  go_enter Tryz.func183, Tryz.ntmps183
  go_wp2_with fail
  go_ret
  exact ⟨rfl, rfl⟩
theorem emptyS : (charsD (ByteArray.empty).data.toList).isSome = true := rfl
theorem vldE : vld ⟨#[]⟩ = true := by rw [vld_chars]; rfl
theorem rlenE : rlenG ⟨#[]⟩ = 0 := by
  rw [rlenG_chars (s := ⟨#[]⟩) rfl]; rfl
set_option maxRecDepth 100000 in
set_option maxHeartbeats 2000000 in
theorem ginsertE {N : Nat} (hT : Tabs N w) (h : Blk w t 164 (txtC g 0 0 0 0 (.slice none 0 0))) (hNt : N ≤ t) :
    Calls Tryz.prog 124 #[pAt t, .int .i64 1, .string ⟨#[]⟩] w fun e w' => e = .returned (.int .i64 0) ∧ Only (fun k => k = t) w w' ∧ Blk w' t 164 (txtC g 0 0 0 0 (.slice none 0 0)) := by
  have H := Lib.hid h
  have HT := Lib.hid hT
  have HN := Lib.hid (gnone0 h rfl)
  have ht := h.lt
  clear h hT
  go_enter Tryz.func124, Tryz.ntmps124
  go_wp2_with fail
  refine HN.out.mono ?_
  rintro e w' ⟨rfl, rfl⟩
  go_wp2_with fail
  refine (gsize0 _ H.out).mono ?_
  rintro e w1 ⟨rfl, hb1⟩
  have H1 := Lib.hid (H.out.up hb1)
  have HT1 := Lib.hid (HT.out.up hb1)
  have hV := valid_any ⟨#[]⟩ w1 (by decide) HT1.out
  rw [vldE] at hV
  go_wp2_with fail
  refine hV.mono ?_
  rintro e w2 ⟨rfl, hb2⟩
  have H2 := Lib.hid (H1.out.up hb2)
  have HT2 := Lib.hid (HT1.out.up hb2)
  clear hV
  go_wp2_with fail
  have hLn := runesLen ⟨#[]⟩ w2 (by decide) HT2.out
  rw [rlenE] at hLn
  refine hLn.mono ?_
  rintro e w3 ⟨rfl, hb3⟩
  have H3 := Lib.hid (H2.out.up hb3)
  have HB3 := Lib.hid (up2 hb1 (up2 hb2 hb3))
  clear hLn hb1 hb2 hb3 H1 H2 HT1 HT2
  go_wp2_with fail
  refine (gsize0 _ H3.out).mono ?_
  rintro e w4 ⟨rfl, hb4⟩
  have H4 := Lib.hid (H3.out.up hb4)
  have HB4 := Lib.hid (up2 HB3.out hb4)
  clear hb4 HB3 H3
  go_wp2_with fail
  refine (gmove0 _ H4.out).mono ?_
  rintro e w5 ⟨rfl, ho5, hk5⟩
  have H5 := Lib.hid hk5
  have HO5 := Lib.hid ho5
  clear hk5 ho5 H4
  go_wp2_with fail
  refine (ggrowE _ H5.out).mono ?_
  rintro e w6 ⟨rfl, hb6⟩
  have hk6 := H5.out.up hb6
  have H6 := Lib.hid hk6
  have HO6 := Lib.hid (((Only.of_below HB4.out : Only (fun k => k = t) w w4).trans HO5.out).trans (Only.of_below hb6))
  have f3 := hk6.cell (j := 3) rfl
  clear hk6 hb6 H5 HO5 HB4
  go_wp2_with fail
  refine (bsearch_nil 1).mono ?_
  rintro e w7 ⟨rfl, rfl⟩
  go_wp2_with fail
  go_loopw [10] (fun va wr => va = .int .i64 0 ∧ w6 = wr) (fun _ _ => 0)
  case atStart => exact ⟨rfl, rfl⟩
  case round =>
    obtain ⟨rfl, rfl⟩ := hrel
    go_wp2_with fail
    clear f3
    have hit := w6.iter_heap ⟨#[]⟩ 0
    have HBi := Lib.hid (show Below w6.heap.size w6 (w6.iter ⟨#[]⟩ 0) from below1 w6 _)
    generalize w6.iter ⟨#[]⟩ 0 = W at *
    go_loopw [11, 13] (fun va vb wr => va = .slice none 0 0 ∧ W = wr) (fun _ _ _ => 0)
    case atStart => exact ⟨rfl, rfl⟩
    case round =>
      obtain ⟨rfl, rfl⟩ := hrel
      have hnx := fun ty => Lib.run_next_end_at (P := Tryz.prog) W w6.heap.size ⟨#[]⟩ 0 ty hit (by decide)
      have hkW := H6.out.up HBi.out
      have q3 := hkW.cell (j := 3) rfl
      have qf := hkW.fz 3
      have HW := Lib.hid hkW
      clear hkW
      go_wp2_with fail
      refine (sinsertE W).mono ?_
      rintro e w8 ⟨rfl, rfl⟩
      go_wp2_with fail
      go_ret
      refine ⟨rfl, (HO6.out.trans (Only.of_below HBi.out)).setCell (p := ⟨t, 3, none⟩) rfl _, HW.out.set (j := 3) (by simp) (.slice none 0 0)⟩
set_option maxRecDepth 100000 in
set_option maxHeartbeats 2000000 in
theorem gapNew0 {N : Nat} (hT : Tabs N w) (hN : N ≤ w.heap.size) : Calls Tryz.prog 72 #[.string ⟨#[]⟩] w fun e w' => ∃ g t, e = .returned (.tuple #[pAt t, .int .i64 0]) ∧ Below w.heap.size w w' ∧ w.heap.size ≤ g ∧ g < t ∧ Blk w' t 164 (txtC g 0 0 0 0 (.slice none 0 0)) := by
  have hV := valid_any ⟨#[]⟩ w (by decide) hT
  rw [vldE] at hV
  have HV := Lib.hid hV
  have HT := Lib.hid hT
  clear hT hV
  go_enter Tryz.func72, Tryz.ntmps72
  go_wp2_with fail
  refine HV.out.mono ?_
  rintro e w1 ⟨rfl, hb1⟩
  have hw1 := hb1.size
  have hsz : (w1.alloc (.cells #[] 21)).heap.size = w1.heap.size + 1 := by simp
  have hk : Blk ((w1.alloc (.cells #[] 21)).alloc (.cells #[.slice (some ⟨w1.heap.size, 0, none⟩) 0 0, .int .i64 0, .int .i64 0, .slice none 0 0] 164)) (w1.heap.size + 1) 164 (txtC w1.heap.size 0 0 0 0 (.slice none 0 0)) := by
    have := Blk.made (w1.alloc (.cells #[] 21)) 164 (txtC w1.heap.size 0 0 0 0 (.slice none 0 0))
    rwa [hsz] at this
  have hb2 : Below w.heap.size w ((w1.alloc (.cells #[] 21)).alloc (.cells #[.slice (some ⟨w1.heap.size, 0, none⟩) 0 0, .int .i64 0, .int .i64 0, .slice none 0 0] 164)) := up2 hb1 (below2 w1 _ _)
  have HK := Lib.hid hk
  have HB := Lib.hid hb2
  clear hk hb1 hb2 HV
  go_wp2_with fail
  refine (ginsertE (HT.out.up HB.out) HK.out (by omega)).mono ?_
  rintro e w3 ⟨rfl, ho3, hk3⟩
  go_wp2_with fail
  go_ret2
  exact ⟨_, _, rfl, (HB.out).trans (ho3.below HB.out.size (fun k hk => by omega)), hw1, Nat.lt_succ_self _, hk3⟩
end
end Go.Proofs.YtnbccoelbfgmgaaGreatDoor
/- buffer.New. -/
namespace Go.Proofs.YtnbccoelbfgmgaaGreatDoor
open Go.RowKit
set_option linter.unusedVariables false
set_option linter.unusedSimpArgs false
abbrev freshS (t m p o l : Nat) (lock : Int) : BS := ⟨1, 1, 1, 0, false, false, false, 0, 0, t, m, p, o, l, true, true, lock, .slice none 0 0, 0⟩
/-- A new buffer at block b. -/
structure Fr (w : World) (N b t g l mm m p o : Nat) (lock pr ev : Int) : Prop where
  blk : BufB w b (freshS t m p o l lock)
  txt : Blk w t 164 (txtC g 0 0 0 0 (.slice none 0 0))
  log : Blk w l 173 (lgC (.slice none 0 0) (.slice none 0 0) 0 0)
  mks : Mk0 w m mm
  prs : Blk w p 183 prC
  ovs : Blk w o 186 (ovC pr ev)
  ord : N ≤ g ∧ g < t ∧ t < l ∧ l < mm ∧ mm < m ∧ m < p ∧ p < o ∧ o < b
section
variable {w w' : World}
theorem Fr.up {N b t g l mm m p o : Nat} {lock pr ev : Int} (h : Fr w N b t g l mm m p o lock pr ev) (hb : Below w.heap.size w w') : Fr w' N b t g l mm m p o lock pr ev :=
  ⟨h.blk.up hb, h.txt.up hb, h.log.up hb, h.mks.up hb, h.prs.up hb, h.ovs.up hb, h.ord⟩
set_option maxRecDepth 100000 in
set_option maxHeartbeats 2000000 in
theorem bufNew {N : Nat} (hT : Tabs N w) (hN : N ≤ w.heap.size) (pr ev lock : Int) : Calls Tryz.prog 33 #[.int .i64 pr, .int .i64 ev, .int .i64 lock] w fun e w' =>
    ∃ b t g l mm m p o, e = .returned (pAt b) ∧ Below w.heap.size w w' ∧ Fr w' w.heap.size b t g l mm m p o lock pr ev := by
  have HT := Lib.hid hT
  clear hT
  go_enter Tryz.func33, Tryz.ntmps33
  go_wp2_with fail
  refine (gapNew0 HT.out hN).mono ?_
  rintro e w1 ⟨g, t, rfl, hb1, hg1, hg2, ht1⟩
  have htl := ht1.lt
  have T1 := Lib.hid ht1
  have B1 := Lib.hid hb1
  clear hb1 ht1
  go_wp2_with fail
  refine (undo_new w1).mono ?_
  rintro e w2 ⟨rfl, hb2, hs2, hl2⟩
  replace hs2 := Nat.le_of_eq hs2.symm
  have T2 := Lib.hid (T1.out.up hb2)
  have B2 := Lib.hid (up2 B1.out hb2)
  have L2 := Lib.hid hl2
  clear hb2 hl2 T1 B1
  generalize w1.heap.size = l at *
  go_wp2_with fail
  refine (marks_new w2).mono ?_
  rintro e w3 ⟨rfl, hb3, hs3, hm3, hmm3⟩
  replace hs3 := Nat.le_of_eq hs3.symm
  have T3 := Lib.hid (T2.out.up hb3)
  have B3 := Lib.hid (up2 B2.out hb3)
  have L3 := Lib.hid (L2.out.up hb3)
  have M3 := Lib.hid (Mk0.made hm3 hmm3)
  clear hb3 hm3 hmm3 T2 B2 L2
  generalize w2.heap.size = mm at *
  go_wp2_with fail
  refine (props_new w3).mono ?_
  rintro e w4 ⟨rfl, hb4, hs4, hp4⟩
  replace hs4 := Nat.le_of_eq hs4.symm
  have T4 := Lib.hid (T3.out.up hb4)
  have B4 := Lib.hid (up2 B3.out hb4)
  have L4 := Lib.hid (L3.out.up hb4)
  have M4 := Lib.hid (M3.out.up hb4)
  have P4 := Lib.hid hp4
  clear hb4 hp4 T3 B3 L3 M3
  generalize w3.heap.size = p at *
  go_wp2_with fail
  refine (overs_new w4 pr ev).mono ?_
  rintro e w5 ⟨rfl, hb5, hs5, ho5⟩
  replace hs5 := Nat.le_of_eq hs5.symm
  have T5 := Lib.hid (T4.out.up hb5)
  have B5 := Lib.hid (up2 B4.out hb5)
  have L5 := Lib.hid (L4.out.up hb5)
  have M5 := Lib.hid (M4.out.up hb5)
  have P5 := Lib.hid (P4.out.up hb5)
  have O5 := Lib.hid ho5
  clear hb5 ho5 T4 B4 L4 M4 P4
  generalize w4.heap.size = o at *
  go_wp2_with fail
  go_ret
  have hb6 := below1 w5 (.cells (bufC (freshS t (mm + 1) p o l lock)) 103)
  have hk6 := Blk.made w5 103 (bufC (freshS t (mm + 1) p o l lock))
  exact ⟨w5.heap.size, t, g, l, mm, mm + 1, p, o, rfl, up2 B5.out hb6, hk6, T5.out.up hb6, L5.out.up hb6, M5.out.up hb6, P5.out.up hb6, O5.out.up hb6, by omega⟩
end
end Go.Proofs.YtnbccoelbfgmgaaGreatDoor
