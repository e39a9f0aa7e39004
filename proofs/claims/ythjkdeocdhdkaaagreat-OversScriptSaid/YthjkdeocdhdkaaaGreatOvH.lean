/- Overlays: cmp.Compare, seek. -/
import Derived.Test.YthjkdeocdhdkaaaGreatOvG
import Derived.Sort.Grow
namespace Go.Proofs.YthjkdeocdhdkaaaGreat
open Go.RowKit
set_option linter.unusedVariables false
set_option linter.unusedSimpArgs false
section
variable {w w' : World} {x : OverE} {L L' : List OverE} {b : Nat} {pr ev nx : Int} {v v' : Value} {A : Option Addr} {ps : List PropE}
def cmpI (x y : Int) : Int := if x < y then -1 else if y < x then 1 else 0
set_option maxHeartbeats 400000 in
theorem isnan_any (x : Int) (w : World) : Calls Tryz.prog 87 #[.int .i64 x] w fun e w' => e = .returned (.bool false) ∧ w = w' := by
  have hne : (x != x) = false := by simp
  go_enter Tryz.func87, Tryz.ntmps87
  go_wp2
  go_ret
  exact ⟨rfl, rfl⟩
set_option maxHeartbeats 400000 in
theorem cmp_any (x y : Int) (w : World) : Calls Tryz.prog 74 #[.int .i64 x, .int .i64 y] w fun e w' => e = .returned (.int .i64 (cmpI x y)) ∧ w = w' := by
  go_enter Tryz.func74, Tryz.ntmps74
  go_wp2_with (go_at_call 87; refine (isnan_any _ _).mono ?_; rintro e w' ⟨rfl, rfl⟩)
  all_goals (go_ret; exact ⟨ret_int (by unfold cmpI; omega), rfl⟩)
/-- As Below, and no draw is taken back. -/
structure BelD (B : Nat) (w w' : World) : Prop extends Below B w w' where
  dr : w.drawn ≤ w'.drawn
theorem BelD.refl (B : Nat) (w : World) : BelD B w w := ⟨Below.refl _ _, Nat.le_refl _⟩
theorem BelD.trans {B : Nat} {a b c : World} (h : BelD B a b) (k : BelD B b c) : BelD B a c := ⟨h.toBelow.trans k.toBelow, Nat.le_trans h.dr k.dr⟩
theorem BelD.mono {B B' : Nat} {a b : World} (h : BelD B a b) (hB : B' ≤ B) : BelD B' a b := ⟨h.toBelow.mono hB, h.dr⟩
theorem BelD.drewN {B : Nat} {a b : World} (h : BelD B a b) (n : Nat) : BelD B a (b.drewN n) := ⟨⟨h.os, h.tape, h.output, h.size, h.block⟩, Nat.le_trans h.dr (Nat.le_add_right _ _)⟩
theorem BelD.drew {B : Nat} {a b : World} (h : BelD B a b) : BelD B a b.drew := h.drewN 1
theorem BelD.setCell {B : Nat} {a b : World} (h : BelD B a b) {p : Addr} (hp : B ≤ p.block) (u : Value) : BelD B a (b.setCell p u) := ⟨h.toBelow.setCell hp u, h.dr⟩
theorem BelD.alloc {B : Nat} {a b : World} (h : BelD B a b) (hb : B ≤ b.heap.size) (o : Obj) : BelD B a (b.alloc o) := ⟨h.toBelow.alloc hb o, h.dr⟩
theorem up2D {w w1 w2 : World} (h : BelD w.heap.size w w1) (k : BelD w1.heap.size w1 w2) : BelD w.heap.size w w2 := h.trans (k.mono h.size)
theorem below1D (w : World) (a : Obj) : BelD w.heap.size w (w.alloc a) := (BelD.refl _ w).alloc (Nat.le_refl _) _
theorem BelD.grow {w w' : World} (h : BelD w.heap.size w w') : ∃ q os', w' = Go.Sort.grow (w.drewN q) os' := by
  refine ⟨w'.drawn - w.drawn, w'.heap.extract w.heap.size w'.heap.size, ?_⟩
  have hs := h.size
  have hd := h.dr
  have hh : w'.heap = w.heap ++ w'.heap.extract w.heap.size w'.heap.size := by
    apply Array.ext_getElem?
    intro i
    rw [Array.getElem?_append]
    split
    · rename_i hi; exact h.block i hi
    · rename_i hi
      rw [Array.getElem?_extract]
      by_cases h2 : i < w'.heap.size
      · rw [if_pos (by omega)]; congr 1; omega
      · rw [if_neg (by omega), Array.getElem?_eq_none (by omega)]
  have h1 := h.os
  have h2 := h.tape
  have h3 := h.output
  obtain ⟨hp, tp, dr, os, ou⟩ := w'
  dsimp only at *
  subst h1 h2 h3
  unfold Go.Sort.grow World.drewN
  dsimp only
  rw [← hh, Nat.add_sub_cancel' hd]
set_option maxHeartbeats 400000 in
theorem seekC (p : PropE) (nm : Int) (w : World) : Calls Tryz.prog 82 #[.agg #[.int .i64 p.name, .int .i64 p.kind, .int .i64 p.n], .int .i64 nm] w fun e w' => e = .returned (.int .i64 (cmpI p.name nm)) ∧ BelD w.heap.size w w' := by
  go_enter Tryz.func82, Tryz.ntmps82
  go_wp2_with fail
  refine (cmp_any _ _ _).mono ?_
  rintro e w' ⟨rfl, rfl⟩
  go_wp2_with fail
  go_ret
  exact ⟨rfl, below1D _ _⟩
/-- How many properties have a lesser name; whether the next has this one. -/
def ixP (ps : List PropE) (nm : Int) : Nat := (ps.takeWhile (fun p => decide (p.name < nm))).length
def isP (ps : List PropE) (nm : Int) : Bool := match ps[ixP ps nm]? with | some p => p.name == nm | none => false
theorem ixP_le (ps : List PropE) (nm : Int) : ixP ps nm ≤ ps.length := (List.takeWhile_sublist _).length_le
theorem ixP_eq : ∀ (l : List PropE) (c : Int) (k : Nat), k ≤ l.length → (∀ j x, j < k → l[j]? = some x → x.name < c) → (∀ x, l[k]? = some x → ¬ x.name < c) → ixP l c = k
  | [], c, k, hk, _, _ => by simp at hk; subst hk; rfl
  | a :: l, c, 0, hk, _, h => by
    have := h a rfl
    unfold ixP
    rw [List.takeWhile_cons, if_neg (by simpa using this)]; rfl
  | a :: l, c, k + 1, hk, h1, h2 => by
    have h0 := h1 0 a (by omega) rfl
    have ih := ixP_eq l c k (by simpa using hk) (fun j x hj hx => h1 (j + 1) x (by omega) hx) h2
    unfold ixP at ih ⊢
    rw [List.takeWhile_cons, if_pos (by simpa using h0), List.length_cons, ih]
def SortedP (ps : List PropE) : Prop := (ps.map PropE.name).Pairwise (· < ·)
theorem SortedP.lt (h : SortedP ps) {i j : Nat} {p q : PropE} (hi : ps[i]? = some p) (hj : ps[j]? = some q) (hij : i < j) : p.name < q.name := by
  obtain ⟨hil, hie⟩ := List.getElem?_eq_some_iff.1 hi
  obtain ⟨hjl, hje⟩ := List.getElem?_eq_some_iff.1 hj
  have := List.pairwise_iff_getElem.1 h i j (by simpa using hil) (by simpa using hjl) hij
  simpa [hie, hje] using this
theorem cmp_lt (a b : Int) : decide (cmpI a b < 0) = decide (a < b) := by
  rw [decide_eq_decide]; unfold cmpI; omega
set_option maxRecDepth 100000 in
set_option maxHeartbeats 1000000 in
theorem bsearch (hs : SortedP ps) (h : RSl encP w A ps) (nm : Int) (c : Nat) (hl : ps.length ≤ 1000000) :
    Calls Tryz.prog 81 #[.slice A ps.length c, .int .i64 nm, .func (.func 82) #[] #[]] w fun e w' => e = .returned (.tuple #[.int .i64 (ixP ps nm), .bool (isP ps nm)]) ∧ BelD w.heap.size w w' := by
  have HS := Lib.hid hs
  have HH := Lib.hid h
  clear hs h
  go_enter Tryz.func81, Tryz.ntmps81
  go_wp2_with fail
  go_loopw [9, 10] (fun vi vj wr => ∃ i j : Nat, i ≤ j ∧ j ≤ ps.length ∧ vi = .int .i64 i ∧ vj = .int .i64 j ∧ (∀ t p, t < i → ps[t]? = some p → p.name < nm) ∧ (∀ t p, j ≤ t → ps[t]? = some p → nm ≤ p.name) ∧ BelD w.heap.size w wr) (fun vi vj _ => (intOf vj).toNat - (intOf vi).toNat)
  case atStart => exact ⟨0, ps.length, by omega, by omega, rfl, rfl, fun t p ht => by omega, (fun t p ht hp => by rw [List.getElem?_eq_none (by omega)] at hp; cases hp), BelD.refl _ _⟩
  case round =>
    obtain ⟨i, j, hij, hj, rfl, rfl, h1, h2, hbel⟩ := hrel
    have H1 := Lib.hid h1
    have H2 := Lib.hid h2
    have HB := Lib.hid hbel
    clear h1 h2 hbel
    by_cases hlt : i < j
    · have hlt' : (i : Int) < j := by omega
      have d0 : decide ((i : Int) < j) = true := decide_eq_true hlt'
      have hm1 : i ≤ (i + j) / 2 := by omega
      have hm2 : (i + j) / 2 < j := by omega
      obtain ⟨⟨pn, pk, pv⟩, hx⟩ : ∃ x, ps[(i + j) / 2]? = some x := ⟨_, List.getElem?_eq_getElem (by omega)⟩
      obtain ⟨g, o, hAe, hg, hc⟩ := (HH.out.up HB.out.toBelow).at_ eltP hx
      have e0 := hc 0 _ rfl
      have e1 := hc 1 _ rfl
      have e2 := hc 2 _ rfl
      simp only [← Nat.add_assoc, Nat.add_zero] at e0 e1 e2
      have HX := Lib.hid hx
      have hmc : (((i + j) / 2 : Nat) : Int) < ps.length := by omega
      subst hAe
      clear hc hx
      have HC := Lib.hid (seekC ⟨pn, pk, pv⟩ nm wr)
      by_cases hpn : pn < nm
      · have hcm : cmpI pn nm = -1 := by unfold cmpI; rw [if_pos hpn]
        simp only [hcm] at HC
        clear hcm
        go_wp2_with fail
        refine HC.out.mono ?_
        rintro e w2 ⟨rfl, hb⟩
        have HB2 := Lib.hid (up2D HB.out hb)
        clear hb e0 e1 e2
        go_wp2_with fail
        go_roundw
        case rel =>
          refine ⟨(i + j) / 2 + 1, j, by omega, by omega, by go_num, rfl, fun t p ht hp => ?_, H2.out, HB2.out⟩
          rcases Nat.lt_or_ge t ((i + j) / 2) with h3 | h3
          · have h4 := HS.out.lt hp HX.out h3; dsimp only at h4; omega
          · obtain rfl : t = (i + j) / 2 := by omega
            rw [HX.out] at hp; cases hp; exact hpn
        case measure => simp [intOf]; omega
      · have hcm : (0 : Int) ≤ cmpI pn nm := by unfold cmpI; rw [if_neg hpn]; split <;> omega
        have HN := Lib.hid (show nm ≤ pn by omega)
        have hcd : decide (cmpI pn nm < (0 : Int)) = false := decide_eq_false (by omega)
        generalize cmpI pn nm = z at *
        clear hcm hpn
        go_wp2_with fail
        refine HC.out.mono ?_
        rintro e w2 ⟨rfl, hb⟩
        have HB2 := Lib.hid (up2D HB.out hb)
        clear hb e0 e1 e2
        go_wp2_with fail
        go_roundw
        case rel =>
          refine ⟨i, (i + j) / 2, by omega, by omega, rfl, by go_num, H1.out, fun t p ht hp => ?_, HB2.out⟩
          rcases Nat.lt_or_ge ((i + j) / 2) t with h3 | h3
          · have h4 := HS.out.lt HX.out hp h3; have h5 := HN.out; dsimp only at h4; omega
          · obtain rfl : t = (i + j) / 2 := by omega
            rw [HX.out] at hp; cases hp; exact HN.out
        case measure => simp [intOf]; omega
    · obtain rfl : i = j := by omega
      have hix := ixP_eq ps nm i hj (fun t p ht hp => H1.out t p ht hp) (fun p hp => by have := H2.out i p (by omega) hp; omega)
      by_cases hlt : i < ps.length
      · have d1 : decide ((i : Int) < ps.length) = true := decide_eq_true (by omega)
        obtain ⟨⟨pn, pk, pv⟩, hx⟩ : ∃ x, ps[i]? = some x := ⟨_, List.getElem?_eq_getElem (by omega)⟩
        obtain ⟨g, o, hAe, hg, hc⟩ := (HH.out.up HB.out.toBelow).at_ eltP hx
        have e0 := hc 0 _ rfl
        have e1 := hc 1 _ rfl
        have e2 := hc 2 _ rfl
        simp only [← Nat.add_assoc, Nat.add_zero] at e0 e1 e2
        have his : isP ps nm = (cmpI pn nm == 0) := by
          unfold isP; rw [hix, hx]
          show (pn == nm) = _
          rw [Bool.eq_iff_iff, beq_iff_eq, beq_iff_eq]; unfold cmpI; split <;> (try split) <;> omega
        have HE := Lib.hid (And.intro hix his)
        have HC := Lib.hid (seekC ⟨pn, pk, pv⟩ nm wr)
        have hmc : (i : Int) < ps.length := by omega
        generalize cmpI pn nm = z at *
        subst hAe
        clear hc hx hix his
        go_wp2_with fail
        refine HC.out.mono ?_
        rintro e w2 ⟨rfl, hb⟩
        have HB2 := Lib.hid (up2D HB.out hb)
        clear hb e0 e1 e2
        go_wp2_with fail
        go_ret2
        exact ⟨by rw [HE.out.1, HE.out.2]; rfl, HB2.out⟩
      · have d1 : decide ((i : Int) < ps.length) = false := decide_eq_false (by omega)
        have his : isP ps nm = false := by unfold isP; rw [hix, List.getElem?_eq_none (by omega)]
        have HE := Lib.hid (And.intro hix his)
        clear hix his
        go_wp2_with fail
        go_ret2
        exact ⟨by rw [HE.out.1, HE.out.2]; rfl, HB.out⟩
end
end Go.Proofs.YthjkdeocdhdkaaaGreat
