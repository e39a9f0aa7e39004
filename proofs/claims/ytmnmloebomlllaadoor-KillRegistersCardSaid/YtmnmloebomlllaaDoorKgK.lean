/- Registers: the reference in memory; New, char, find, Get, Names. -/
import Derived.Test.YtmnmloebomlllaaDoorKgJ
import Derived.Test.YtmnmloebomlllaaDoorOwn
namespace Go.Proofs.YtmnmloebomlllaaDoor
open Go.RowKit
set_option linter.unusedVariables false
set_option linter.unusedSimpArgs false
abbrev encQ (p : Int × Reg) : List Value := [.int .i64 p.1, .int .i64 p.2.kind, .int .i64 p.2.n, .int .i64 p.2.id, .string p.2.text, .slice p.2.A p.2.rows.length p.2.c]
theorem eltQ : Elt encQ 81 90 6 72 (.agg #[.int .i64 0, .int .i64 0, .int .i64 0, .int .i64 0, .string ⟨#[]⟩, .slice none 0 0]) :=
  ⟨Tryd.underlying81, by kernel_rfl, rfl, by omega, fun _ => rfl, fun x u hu => by simp at hu; rcases hu with rfl | rfl | rfl | rfl | rfl | rfl <;> rfl⟩
/-- The reference's registers at block bo. -/
structure RefR (w : World) (bo : Nat) (v : Value) (l : List (Int × Reg)) : Prop where
  c0 : w.cell? ⟨bo, 0, none⟩ = some v
  f0 : w.frozen? ⟨bo, 0, none⟩ = false
  own : ROwn encQ 90 6 0 w v l
  ne : v.ownBlock ≠ some bo
  regs : ∀ p ∈ l, RegIn w p.2
  apart : ∀ g, Foot l g → g ≠ bo ∧ v.ownBlock ≠ some g
  ok : ∀ p ∈ l, RegOk p
  sorted : (l.map (·.1)).Pairwise (· < ·)
section
variable {w w' : World} {bo : Nat} {v : Value} {l : List (Int × Reg)}
theorem RefR.lt (h : RefR w bo v l) : bo < w.heap.size := lt_of_cell h.c0
theorem RegIn.blk_lt {r : Reg} {g : Nat} (h : RegIn w r) (hg : regBlk r g) : g < w.heap.size := by obtain ⟨hp, o, e⟩ := hg; exact h.i.lt hp e
theorem RegIn.only {S : Nat → Prop} {r : Reg} (h : RegIn w r) (ho : Only S w w') (hs : ∀ g, regBlk r g → ¬ S g) : RegIn w' r := ⟨h.i.only ho (fun hp g o e => hs g ⟨hp, o, e⟩), h.l, h.m⟩
theorem RefR.only {S : Nat → Prop} (h : RefR w bo v l) (ho : Only S w w') (h1 : ¬ S bo) (h2 : ∀ g, v.ownBlock = some g → ¬ S g) (h3 : ∀ g, Foot l g → ¬ S g) : RefR w' bo v l :=
  ⟨(World.cell?_of_block (w := w) (a := ⟨bo, 0, none⟩) (ho.block bo h.lt h1)).trans h.c0, (World.frozen?_of_block (w := w) (a := ⟨bo, 0, none⟩) (ho.block bo h.lt h1)).trans h.f0,
   h.own.kept (fun g hg => ho.block g (h.own.lt hg) (h2 g hg)), h.ne, fun p hp => (h.regs p hp).only ho (fun g hg => h3 g ⟨p, hp, hg⟩), h.apart, h.ok, h.sorted⟩
theorem RefR.up (h : RefR w bo v l) (hb : Below w.heap.size w w') : RefR w' bo v l := h.only (S := fun _ => False) (Only.of_below hb) id (fun _ _ => id) (fun _ _ => id)

theorem rchar (c : Int) (w : World) : Calls Tryd.prog 52 #[.int .i64 c] w fun e w' => e = .returned (.bool (charI c)) ∧ w = w' := by
  unfold charI
  by_cases h0 : 0 ≤ c
  · have d0 : decide (0 ≤ c) = true := decide_eq_true h0
    by_cases h1 : c ≤ 1114111
    · have d1 : decide (c ≤ (1114111 : Int)) = true := decide_eq_true h1
      by_cases h2 : 55296 ≤ c
      · have d2 : decide ((55296 : Int) ≤ c) = true := decide_eq_true h2
        have d2' : decide (c < (55296 : Int)) = false := decide_eq_false (by omega)
        by_cases h3 : c ≤ 57343
        · have d3 : decide (c ≤ (57343 : Int)) = true := decide_eq_true h3
          have d3' : decide ((57343 : Int) < c) = false := decide_eq_false (by omega)
          rw [d0, d1, d2, d3]
          clear h0 h1 h2 h3
          go_enter Tryd.func52, Tryd.ntmps52
          go_wp2
          go_ret
          exact ⟨rfl, rfl⟩
        · have d3 : decide (c ≤ (57343 : Int)) = false := decide_eq_false h3
          have d3' : decide ((57343 : Int) < c) = true := decide_eq_true (by omega)
          rw [d0, d1, d2, d3]
          clear h0 h1 h2 h3
          go_enter Tryd.func52, Tryd.ntmps52
          go_wp2
          go_ret
          exact ⟨rfl, rfl⟩
      · have d2 : decide ((55296 : Int) ≤ c) = false := decide_eq_false h2
        have d2' : decide (c < (55296 : Int)) = true := decide_eq_true (by omega)
        rw [d0, d1, d2]
        clear h0 h1 h2
        go_enter Tryd.func52, Tryd.ntmps52
        go_wp2
        go_ret
        exact ⟨rfl, rfl⟩
    · have d1 : decide (c ≤ (1114111 : Int)) = false := decide_eq_false h1
      rw [d0, d1]
      clear h0 h1
      go_enter Tryd.func52, Tryd.ntmps52
      go_wp2
      go_ret
      exact ⟨rfl, rfl⟩
  · have d0 : decide (0 ≤ c) = false := decide_eq_false h0
    rw [d0]
    clear h0
    go_enter Tryd.func52, Tryd.ntmps52
    go_wp2
    go_ret
    exact ⟨rfl, rfl⟩
theorem rregs_new (w : World) : Calls Tryd.prog 25 #[] w fun e w' => e = .returned (.pointer (some ⟨w.heap.size, 0, none⟩)) ∧ RefR w' w.heap.size (.slice none 0 0) [] ∧ Below w.heap.size w w' := by
  go_enter Tryd.func25, Tryd.ntmps25
  go_wp2
  go_ret
  have e := (MapKept.heap_alloc w (.cells #[.slice none 0 0] 83)).1
  exact ⟨rfl, ⟨by simp only [World.cell?, e]; rfl, by simp only [World.frozen?, e]; rfl, ROwn.nil _ _, by simp [Value.ownBlock], by simp, fun g ⟨p, hp, _⟩ => by simp at hp, by simp, by simp⟩, below1 w _⟩
/-- How many lie before c. -/
def ixL {α : Type} (l : List (Int × α)) (c : Int) : Nat := (l.takeWhile (fun p => decide (p.1 < c))).length
def isL {α : Type} (l : List (Int × α)) (c : Int) : Bool := match l[ixL l c]? with | some p => p.1 == c | none => false
theorem ixL_le {α : Type} (l : List (Int × α)) (c : Int) : ixL l c ≤ l.length := (List.takeWhile_sublist _).length_le
theorem ixL_eq {α : Type} : ∀ (l : List (Int × α)) (c : Int) (k : Nat), k ≤ l.length → (∀ j x, j < k → l[j]? = some x → x.1 < c) → (∀ x, l[k]? = some x → ¬ x.1 < c) → ixL l c = k
  | [], c, k, hk, _, _ => by simp at hk; subst hk; rfl
  | a :: l, c, 0, hk, _, h => by
    have := h a rfl
    unfold ixL
    rw [List.takeWhile_cons, if_neg (by simpa using this)]; rfl
  | a :: l, c, k + 1, hk, h1, h2 => by
    have h0 := h1 0 a (by omega) rfl
    have ih := ixL_eq l c k (by simpa using hk) (fun j x hj hx => h1 (j + 1) x (by omega) hx) h2
    unfold ixL at ih ⊢
    rw [List.takeWhile_cons, if_pos (by simpa using h0), List.length_cons, ih]
set_option maxRecDepth 100000 in
set_option maxHeartbeats 1000000 in
theorem rgfind (h : RefR w bo v l) (c : Int) (hl : l.length ≤ 1000000) :
    Calls Tryd.prog 54 #[.pointer (some ⟨bo, 0, none⟩), .int .i64 c] w fun e w' => e = .returned (.tuple #[.int .i64 (ixL l c), .bool (isL l c)]) ∧ Below w.heap.size w w' := by
  obtain ⟨A, cp, rfl, hA1, hA2, hAs⟩ := h.own.shape eltQ
  have c0 := h.c0
  have HAs := Lib.hid hAs
  clear hAs h hA1 hA2
  go_enter Tryd.func54, Tryd.ntmps54
  go_wp2_with fail
  go_loop [6] (fun vi => ∃ k : Nat, k ≤ l.length ∧ vi = .int .i64 k ∧ ∀ j x, j < k → l[j]? = some x → x.1 < c) (fun vi => l.length - (intOf vi).toNat)
  case atStart => exact ⟨0, by omega, rfl, fun j x hj => by omega⟩
  case round =>
    obtain ⟨k, hk, rfl, hno⟩ := hrel
    have HNO := Lib.hid hno
    clear hno
    by_cases hlt : k < l.length
    · have d0 : decide ((k : Int) < l.length) = true := decide_eq_true (by omega)
      obtain ⟨⟨jd, jx⟩, hy⟩ : ∃ y, l[k]? = some y := ⟨_, List.getElem?_eq_getElem (by omega)⟩
      obtain ⟨g, o, hAe, hg, hc⟩ := HAs.out.at_ eltQ hy
      have e0 := hc 0 _ rfl
      simp only [Nat.add_zero] at e0
      have HY := Lib.hid hy
      have hlt' : (k : Int) < l.length := by omega
      subst hAe
      clear hc hy
      by_cases hjc : jd < c
      · have d1 : decide (jd < c) = true := decide_eq_true hjc
        go_wp2_with fail
        go_round
        case rel =>
          refine ⟨k + 1, by omega, by go_num, fun j x hj hx => ?_⟩
          rcases Nat.lt_or_ge j k with h1 | h1
          · exact HNO.out j x h1 hx
          · obtain rfl : j = k := by omega
            rw [HY.out] at hx; cases hx; exact hjc
        case measure => simp [intOf]; omega
      · have d1 : decide (jd < c) = false := decide_eq_false hjc
        have hix := ixL_eq l c k hk HNO.out (fun x hx => by rw [HY.out] at hx; cases hx; exact hjc)
        have his : isL l c = (jd == c) := by unfold isL; rw [hix, HY.out]
        have HE := Lib.hid (And.intro hix his)
        clear hix his
        go_wp2_with fail
        go_quiet (fail)
        go_wp2_with fail
        go_ret2
        exact ⟨by rw [HE.out.1, HE.out.2]; rfl, have b := Below.refl w.heap.size w; ⟨b.os, b.tape, b.output, b.size, b.block⟩⟩
    · obtain rfl : k = l.length := by omega
      have hix := ixL_eq l c l.length hk HNO.out (fun x hx => by rw [List.getElem?_eq_none (by omega)] at hx; cases hx)
      have his : isL l c = false := by unfold isL; rw [hix, List.getElem?_eq_none (by omega)]
      have HE := Lib.hid (And.intro hix his)
      have d0 : decide ((l.length : Int) < l.length) = false := decide_eq_false (by omega)
      clear hix his
      go_wp2_with fail
      go_quiet (fail)
      go_wp2_with fail
      go_ret2
      exact ⟨by rw [HE.out.1, HE.out.2]; rfl, have b := Below.refl w.heap.size w; ⟨b.os, b.tape, b.output, b.size, b.block⟩⟩
end
end Go.Proofs.YtmnmloebomlllaaDoor
