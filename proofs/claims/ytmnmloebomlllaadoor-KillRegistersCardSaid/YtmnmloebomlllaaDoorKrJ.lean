/- The reference's ring: New, turn, Yank, Pop. -/
import Derived.Test.YtmnmloebomlllaaDoorKrI
namespace Go.Proofs.YtmnmloebomlllaaDoor
open Go.RowKit
set_option linter.unusedVariables false
set_option linter.unusedSimpArgs false
section
variable {w w' : World} {b : Nat} {L : List ByteArray} {most at_ : Nat} {v : Value}
theorem rnew_bad (most : Int) (w : World) (h : most < 1 ∨ 60 < most) : Calls Tryd.prog 16 #[.int .i64 most] w fun e w' => e = .returned (.tuple #[.pointer none, .int .i64 2]) ∧ w = w' := by
  rcases h with h | h
  · go_enter Tryd.func16, Tryd.ntmps16
    go_wp2
    go_ret2
    exact ⟨rfl, rfl⟩
  · have h' : 1 ≤ most := by omega
    go_enter Tryd.func16, Tryd.ntmps16
    go_wp2
    go_ret2
    exact ⟨rfl, rfl⟩
set_option maxHeartbeats 400000 in
theorem rnew_ok (most : Nat) (w : World) (h0 : 1 ≤ most) (h1 : most ≤ 60) : Calls Tryd.prog 16 #[.int .i64 most] w fun e w' => e = .returned (.tuple #[.pointer (some ⟨w.heap.size, 0, none⟩), .int .i64 0]) ∧ RRing w' w.heap.size (.slice none 0 0) [] most 0 ∧ Below w.heap.size w w' := by
  have g1 : decide ((most : Int) < 1) = false := by simp; omega
  have g2 : decide ((60 : Int) < most) = false := by simp; omega
  go_enter Tryd.func16, Tryd.ntmps16
  go_wp2
  go_ret2
  have e := (MapKept.heap_alloc w (.cells #[.slice none 0 0, .int .i64 0, .int .i64 most] 46)).1
  refine ⟨rfl, ⟨by simp only [World.cell?, e]; rfl, by simp only [World.cell?, e]; rfl, by simp only [World.cell?, e]; rfl, fun i hi => ?_, ROwn.nil _ _, by simp, h0, h1, .inr rfl⟩, below1 w _⟩
  simp only [World.frozen?, e]
  simp only [Nat.not_lt_zero, decide_false, Bool.and_false]
theorem turn_tmod (n at_ : Nat) (k : Int) (hn : 0 < n) : turnTo n at_ (k.tmod n) = turnTo n at_ k := by
  unfold turnTo
  have h : (k.tmod n) % (n : Int) = k % n := by
    have h2 := Int.tmod_add_mul_tdiv k n
    conv => rhs; rw [← h2]
    rw [Int.add_mul_emod_self_left]
  congr 1
  rw [Int.add_emod, h, ← Int.add_emod]
def RTake (w : World) (b : Nat) (v : Value) (L : List ByteArray) (most k : Nat) (e : Ending) (w' : World) : Prop :=
  e = .returned (.tuple #[.string (L.getD k ByteArray.empty), .int .i64 0]) ∧ RRing w' b v L most k ∧ Only (· = b) w w'
theorem turn_add (n at_ : Nat) (k : Int) (hn : 0 < n) (hat : at_ < n) (r : Int) (hr : r = if k.tmod n < 0 then k.tmod n + n else k.tmod n) : ((at_ : Int) + r) % n = (turnTo n at_ k : Nat) := by
  rw [← turn_tmod n at_ k hn]
  unfold turnTo
  have hnn := Int.emod_nonneg ((at_ : Int) + k.tmod n) (by omega : (n : Int) ≠ 0)
  rw [Int.toNat_of_nonneg hnn]
  subst hr
  split
  · rw [← Int.add_assoc, Int.add_emod_right]
  · rfl
set_option maxRecDepth 100000 in
set_option maxHeartbeats 1000000 in
theorem RRing.turn (h : RRing w b v L most at_) (hn : 0 < L.length) (k : Int) : Calls Tryd.prog 45 #[.pointer (some ⟨b, 0, none⟩), .int .i64 k] w (RTake w b v L most (turnTo L.length at_ k)) := by
  have hat : at_ < L.length := by rcases h.hat with h | h <;> omega
  have hl60 : L.length ≤ 60 := Nat.le_trans h.hn h.hm1
  obtain ⟨A, cp, rfl, hA1, hA2, hA3⟩ := h.own.shape eltS
  obtain ⟨t1, t2⟩ := tmod_bd k L.length hn
  have hadd := turn_add L.length at_ k hn hat _ rfl
  have htl := turnTo_lt L.length at_ k hn
  generalize turnTo L.length at_ k = q at *
  obtain ⟨x, hx⟩ : ∃ x, L[q]? = some x := ⟨_, List.getElem?_eq_getElem htl⟩
  obtain ⟨g, o, rfl, hg, hc⟩ := hA3.at_ eltS hx
  have cx := hc 0 _ rfl
  simp only [Nat.mul_one, Nat.add_zero] at cx
  have hxd : L.getD q ByteArray.empty = x := by rw [List.getD_eq_getElem?_getD, hx]; rfl
  have HXD := Lib.hid hxd
  have hgb : g ≠ b := (h.ne (g := g) rfl).1
  have c0 := h.c0
  have c1 := h.c1
  have z1 := h.fz 1 (by omega)
  have hnz : ((L.length : Int) == 0) = false := by simp; intro e; subst e; simp at hn
  have H2 := Lib.hid (h.setAt q (.inl htl))
  have HG := Lib.hid hgb
  clear hc hxd hx hgb hA3
  have a0 : (0 : Int) ≤ at_ := by omega
  have a1 : (at_ : Int) < L.length := by omega
  have a2 : (L.length : Int) ≤ 60 := by omega
  have b0 : (0 : Int) ≤ q := by omega
  have b1 : (q : Int) < L.length := by omega
  have b2 : (q : Int) < cp := by omega
  have e1 : ∀ y : Value, (w.setCell ⟨b, 1, none⟩ y).cell? ⟨b, 0, none⟩ = some (.slice (some ⟨g, o, none⟩) L.length cp) := fun y => by rw [World.cell?_setCell_other _ _ _ _ (by simp)]; exact c0
  have e2 : ∀ y : Value, (w.setCell ⟨b, 1, none⟩ y).cell? ⟨g, o + q, none⟩ = some (.string x) := fun y => by rw [World.cell?_setCell_other _ _ _ _ (by simp; exact fun e => absurd e.symm HG.out)]; exact cx
  obtain ⟨r, hr⟩ : ∃ r, k.tmod L.length = r := ⟨_, rfl⟩
  rw [hr] at hadd t1 t2
  by_cases hneg : r < 0
  · rw [if_pos hneg] at hadd
    have d1 : decide (r < 0) = true := decide_eq_true hneg
    have HADD := Lib.hid hadd
    clear hadd
    go_enter Tryd.func45, Tryd.ntmps45
    go_wp2_with fail
    go_region
    go_wp2_with fail
    rw [HADD.out]
    have HO : Hid (Only (· = b) w (w.setCell ⟨b, 1, none⟩ (.int .i64 q)).drew) := Lib.hid ((Only.refl _ w).setB _ _).drew
    have HE1 := Lib.hid (e1 (.int .i64 q))
    have HE2 := Lib.hid (e2 (.int .i64 q))
    clear e1 e2 c0 c1 z1 cx h
    have g0 : (w.setCell ⟨b, 1, none⟩ (.int .i64 q)).drew.cell? ⟨b, 0, none⟩ = some (.slice (some ⟨g, o, none⟩) L.length cp) := HE1.out
    have g1 : (w.setCell ⟨b, 1, none⟩ (.int .i64 q)).drew.cell? ⟨b, 1, none⟩ = some (.int .i64 q) := H2.out.c1
    have g2 : (w.setCell ⟨b, 1, none⟩ (.int .i64 q)).drew.cell? ⟨g, o + q, none⟩ = some (.string x) := HE2.out
    have H3 : Hid (RRing (w.setCell ⟨b, 1, none⟩ (.int .i64 q)).drew b (.slice (some ⟨g, o, none⟩) L.length cp) L most q) := Lib.hid (H2.out.kept rfl (fun _ _ => rfl))
    clear HE1 HE2 H2
    generalize (w.setCell ⟨b, 1, none⟩ (.int .i64 q)).drew = W1 at *
    go_region
    go_wp2_with fail
    go_ret2
    exact ⟨by rw [HXD.out]; rfl, H3.out.kept rfl (fun _ _ => rfl), HO.out.drew⟩
  · rw [if_neg hneg] at hadd
    have d1 : decide (r < 0) = false := decide_eq_false hneg
    have r0 : 0 ≤ r := by omega
    have HADD := Lib.hid hadd
    clear hadd
    go_enter Tryd.func45, Tryd.ntmps45
    go_wp2_with fail
    go_region
    go_wp2_with fail
    rw [HADD.out]
    have HO : Hid (Only (· = b) w (w.setCell ⟨b, 1, none⟩ (.int .i64 q)).drew) := Lib.hid ((Only.refl _ w).setB _ _).drew
    have HE1 := Lib.hid (e1 (.int .i64 q))
    have HE2 := Lib.hid (e2 (.int .i64 q))
    clear e1 e2 c0 c1 z1 cx h
    have g0 : (w.setCell ⟨b, 1, none⟩ (.int .i64 q)).drew.cell? ⟨b, 0, none⟩ = some (.slice (some ⟨g, o, none⟩) L.length cp) := HE1.out
    have g1 : (w.setCell ⟨b, 1, none⟩ (.int .i64 q)).drew.cell? ⟨b, 1, none⟩ = some (.int .i64 q) := H2.out.c1
    have g2 : (w.setCell ⟨b, 1, none⟩ (.int .i64 q)).drew.cell? ⟨g, o + q, none⟩ = some (.string x) := HE2.out
    have H3 : Hid (RRing (w.setCell ⟨b, 1, none⟩ (.int .i64 q)).drew b (.slice (some ⟨g, o, none⟩) L.length cp) L most q) := Lib.hid (H2.out.kept rfl (fun _ _ => rfl))
    clear HE1 HE2 H2
    generalize (w.setCell ⟨b, 1, none⟩ (.int .i64 q)).drew = W1 at *
    go_region
    go_wp2_with fail
    go_ret2
    exact ⟨by rw [HXD.out]; rfl, H3.out.kept rfl (fun _ _ => rfl), HO.out.drew⟩
def RNone (w : World) (e : Ending) (w' : World) : Prop := e = .returned (.tuple #[.string ⟨#[]⟩, .int .i64 13]) ∧ w = w'
set_option maxHeartbeats 1000000 in
theorem RRing.turn0 (h : RRing w b v [] most at_) (k : Int) : Calls Tryd.prog 45 #[.pointer (some ⟨b, 0, none⟩), .int .i64 k] w (RNone w) := by
  obtain ⟨A, cp, rfl, hA1, hA2, hA3⟩ := h.own.shape eltS
  have c0 := h.c0
  go_enter Tryd.func45, Tryd.ntmps45
  go_wp2_with fail
  go_ret2
  exact ⟨rfl, rfl⟩
set_option maxHeartbeats 1000000 in
theorem RRing.pop0 (h : RRing w b v [] most at_) (k : Int) : Calls Tryd.prog 20 #[.pointer (some ⟨b, 0, none⟩), .int .i64 k] w (RNone w) := by
  have ht := Lib.hid (h.turn0 k)
  clear h
  go_enter Tryd.func20, Tryd.ntmps20
  go_wp2_with fail
  refine ht.out.mono ?_
  rintro e w' ⟨rfl, rfl⟩
  go_wp2_with fail
  go_ret2
  exact ⟨rfl, rfl⟩
set_option maxHeartbeats 1000000 in
theorem RRing.yank0 (h : RRing w b v [] most at_) (k : Int) : Calls Tryd.prog 19 #[.pointer (some ⟨b, 0, none⟩), .int .i64 k] w (RNone w) := by
  obtain ⟨A, cp, rfl, hA1, hA2, hA3⟩ := h.own.shape eltS
  have c0 := h.c0
  go_enter Tryd.func19, Tryd.ntmps19
  go_wp2_with fail
  go_ret2
  exact ⟨rfl, rfl⟩
set_option maxHeartbeats 1000000 in
theorem RRing.pop (h : RRing w b v L most at_) (hn : 0 < L.length) (k : Int) : Calls Tryd.prog 20 #[.pointer (some ⟨b, 0, none⟩), .int .i64 k] w (RTake w b v L most (turnTo L.length at_ (k.tmod L.length))) := by
  rw [turn_tmod _ _ _ hn]
  have ht := Lib.hid (h.turn hn k)
  clear h
  go_enter Tryd.func20, Tryd.ntmps20
  go_wp2_with fail
  refine ht.out.mono ?_
  rintro e w' ⟨rfl, hr, ho⟩
  go_wp2_with fail
  go_ret2
  exact ⟨rfl, hr, ho⟩
set_option maxHeartbeats 1000000 in
theorem RRing.yank (h : RRing w b v L most at_) (hn : 0 < L.length) (k : Int) : Calls Tryd.prog 19 #[.pointer (some ⟨b, 0, none⟩), .int .i64 k] w (RTake w b v L most (turnTo L.length at_ (k.tmod L.length - 1))) := by
  obtain ⟨t1, t2⟩ := tmod_bd k L.length hn
  have hl60 : L.length ≤ 60 := Nat.le_trans h.hn h.hm1
  obtain ⟨A, cp, rfl, hA1, hA2, hA3⟩ := h.own.shape eltS
  have c0 := h.c0
  have ht := Lib.hid (h.turn hn (k.tmod L.length - 1))
  have hnz : ((L.length : Int) == 0) = false := by simp; intro e; subst e; simp at hn
  clear h hA3
  go_enter Tryd.func19, Tryd.ntmps19
  go_wp2_with fail
  refine ht.out.mono ?_
  rintro e w' ⟨rfl, hr, ho⟩
  go_wp2_with fail
  go_ret2
  exact ⟨rfl, hr, ho⟩
end
end Go.Proofs.YtmnmloebomlllaaDoor
