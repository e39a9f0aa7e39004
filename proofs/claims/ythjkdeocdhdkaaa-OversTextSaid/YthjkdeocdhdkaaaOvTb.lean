/- Overlays: what the walk over the text wants: a slice made, a slice put in another, the one overlay. -/
import Derived.Test.YthjkdeocdhdkaaaOvTa
import Derived.Test.YthjkdeocdhdkaaaOvAc
import Derived.Test.YthjkdeocdhdkaaaIns
import Derived.Laws.MakeOwn
import Derived.Laws.OwnMore
namespace Go.Proofs.Ythjkdeocdhdkaaa
open Go.RowKit
set_option linter.unusedVariables false
set_option linter.unusedSimpArgs false
section
variable {w w' W : World} {b : Nat} {pr ev nx : Int} {A : Option Addr} {S T : Nat → Prop} {D : List OverD}
theorem mk_ints (B n : Nat) (hn : n ≤ 1000000) (hB : B ≤ w.heap.size) :
    ∃ w', (Instr.makeSlice 30 (.int .i64 (n : Int)) (.int .i64 (n : Int))).run Try.prog w = .ok (.slice (some ⟨w.heap.size, 0, none⟩) n n) w' ∧ ROwn encI 3 1 B w' (.slice (some ⟨w.heap.size, 0, none⟩) n n) (List.replicate n 0) ∧ Below w.heap.size w w' := by
  obtain ⟨i, hi, hz0, hz1, hz2⟩ := info_parts eltI.info
  obtain ⟨w', h1, h2, h3⟩ := run_makeSlice_full (P := Try.prog) w B 30 3 i (.int .i64 0) 1 Try.underlying30 hi hz0 hz1 .i64 .i64 n (by omega) (by rw [hz2]; omega) (by unfold maxLen; omega) hB
  refine ⟨w', h1, ?_, ⟨h3.os, h3.tape, h3.output, h3.size, fun k hk => h3.block k hk (fun e => by cases e)⟩⟩
  unfold ROwn
  rw [List.length_replicate]
  have e : (madeCells (Value.int .i64 0).cells (n * 1)).toList = cellsL encI (List.replicate n 0) := by
    rw [cells_I]
    apply List.ext_getElem?
    intro j
    simp [madeCells, Value.cells, Nat.mod_one]
    by_cases hj : j < n
    · rw [List.getElem?_replicate, if_pos hj]; simp [hj, Nat.mod_one]
    · rw [List.getElem?_replicate, if_neg hj]; simp [hj]
  rw [← e]
  exact h2
theorem OSt.tight (h : OSt w b pr ev D nx S) : OSt w b pr ev D nx (fun k => S k ∧ k < w.heap.size) := by
  obtain ⟨v, L, h1, h2, h3⟩ := h
  exact ⟨v, L, h1, h2, fun k hk => ⟨h3 k hk, h1.lt hk⟩⟩
theorem s_new' (pr ev : Int) (w : World) : Calls Try.prog 12 #[.int .i64 pr, .int .i64 ev] w fun e w' => ∃ b, e = .returned (.pointer (some ⟨b, 0, none⟩)) ∧ OSt w' b pr ev [] 0 (fun k => k = b) ∧ w.heap.size ≤ b ∧ Below w.heap.size w w' :=
  (onew_any pr ev w).mono fun e w' ⟨b, he, hb, h1, h2⟩ => ⟨b, he, ⟨_, [], h1, rfl, fun k hk => by
    rcases foot_cases hk with rfl | h3 | ⟨x, hx, _⟩
    · rfl
    · cases h3
    · simp at hx⟩, hb, h2⟩
theorem one_wf {a c : Int} {fr re : Bool} (h1 : 1 ≤ a) (h2 : a ≤ c) (h3 : c ≤ 1099511627776) : WfD (oneD a c fr re) 1 :=
  ⟨by simp [oneD], fun x hx => by simp [oneD] at hx; subst hx; exact ⟨Int.le_refl 0, show (0 : Int) < 1 by omega, h1, h2, h3, List.Pairwise.nil, by simp, by simp⟩, by simp [oneD], by omega⟩
theorem one_add {a c : Int} {fr re : Bool} (hr : rightI a c = true) : addR [] 0 a c = 0 ∧ addE [] a c = 0 ∧ addD [] 0 a c fr re = oneD a c fr re ∧ addN [] 0 a c = 1 := by
  have h : addE [] a c = 0 := by unfold addE; rw [hr]; rfl
  refine ⟨?_, h, ?_, ?_⟩
  · unfold addR; rw [h]; rfl
  · unfold addD; rw [h]; rfl
  · unfold addN; rw [h]; rfl
/-- append(append(append([]T{}, s[:k]...), u...), s[k:]...). -/
theorem insL {α : Type} {enc : α → List Value} {T E kk by_ : Nat} {z : Value} {A A2 : Option Addr} {l u : List α} (I : Elt enc T E kk by_ z) (hby : by_ ≤ 100000) {cl c2 k : Nat} (hs : RSl enc w A l) (hu : RSl enc w A2 u) (hcl : l.length ≤ cl) (hk : k ≤ l.length) (hl : l.length ≤ 100000000) (hl2 : u.length ≤ 100000000) :
    ∃ v7 w7 v8 w8 v9 w9, AppRun T (.slice (some ⟨w.heap.size, 0, none⟩) 0 0) (.slice A k cl) (w.alloc (.cells #[] E)).drew v7 w7 ∧ AppRun T v7 (.slice A2 u.length c2) w7 v8 w8 ∧
      AppRun T v8 (.slice (tailA A cl k kk) (l.length - k) (cl - k)) w8 v9 w9 ∧ ROwn enc E kk w.heap.size w9 v9 (l.take k ++ u ++ l.drop k) ∧ Below w.heap.size w w7 ∧ Below w.heap.size w w8 ∧ Below w.heap.size w w9 := by
  have hb0 : Below w.heap.size w (w.alloc (.cells #[] E)).drew := (below1 w _).drew
  obtain ⟨v7, w7, r7, o7, b7, k7, s7⟩ := app_next (c := cl) I (ROwn.emptyAt (enc := enc) (k := kk) (B := w.heap.size) (al1 w _) (Nat.le_refl _)) hb0 ((hs.up hb0).take I k) (n := k) (by simp; omega) (by simp; omega) hby
  obtain ⟨v8, w8, r8, o8, b8, k8, s8⟩ := app_next (c := c2) I o7 b7 (hu.up b7) rfl (by simp; omega) hby
  obtain ⟨v9, w9, r9, o9, b9, k9, s9⟩ := app_next (c := cl - k) I o8 b8 ((hs.up b8).drop I hk hcl) (n := l.length - k) (by simp) (by simp; omega) hby
  rw [List.nil_append] at o9
  exact ⟨v7, w7, v8, w8, v9, w9, r7, r8, r9, o9, b7, b8, b9⟩
def slLen : Value → Nat | .slice _ n _ => n | _ => 0
/-- The state of the walk over a text: the text's slice and the overlay apart. -/
structure TxtSt (w0 w : World) (ob : Nat) (fr re : Bool) (vt : Value) (T : List Int) (a c : Int) (m : Nat) : Prop where
  own : ROwn encI 3 1 w0.heap.size w vt T
  inv : TInv a c T
  len : T.length ≤ m
  st : ∃ S, OSt w ob 1 2 (oneD a c fr re) 1 S ∧ ∀ k, S k → w0.heap.size ≤ k ∧ vt.ownBlock ≠ some k
  bel : Below w0.heap.size w0 w
theorem TxtSt.up {w0 : World} {ob m : Nat} {fr re : Bool} {vt : Value} {T : List Int} {a c : Int} (h : TxtSt w0 w ob fr re vt T a c m) (hb : Below w.heap.size w w') : TxtSt w0 w' ob fr re vt T a c m := by
  obtain ⟨S, h1, h2⟩ := h.st
  exact ⟨h.own.up hb, h.inv, h.len, ⟨S, h1.up hb, h2⟩, up2 h.bel hb⟩
theorem TxtSt.wf {w0 : World} {ob m : Nat} {fr re : Bool} {vt : Value} {T : List Int} {a c : Int} (h : TxtSt w0 w ob fr re vt T a c m) (hm : m ≤ 1000000) : WfD (oneD a c fr re) 1 := by
  obtain ⟨h1, h2, h3, _⟩ := h.inv
  have := h.len
  exact one_wf h1 h2 (by omega)
/-- The overlay has been adjusted, then the text is put anew. -/
theorem TxtSt.next {w0 w1 : World} {ob m m' : Nat} {fr re : Bool} {vt vt' : Value} {T T' : List Int} {a c a' c' : Int} {S' : Nat → Prop} (h : TxtSt w0 w ob fr re vt T a c m) (h1 : OSt w1 ob 1 2 (oneD a' c' fr re) 1 S') (hs : ∀ k, S' k → w0.heap.size ≤ k) (hb1 : Below w0.heap.size w0 w1)
    (hown : ROwn encI 3 1 w1.heap.size w' vt' T') (hb2 : Below w1.heap.size w1 w') (hi : TInv a' c' T') (hl : T'.length ≤ m') : TxtSt w0 w' ob fr re vt' T' a' c' m' := by
  have hz := hb1.size
  exact ⟨hown.low hz, hi, hl, ⟨_, (h1.tight).up hb2, fun k hk => ⟨hs k hk.1, fun e => by have := hown.base e; have := hk.2; omega⟩⟩, hb1.trans (hb2.mono hz)⟩
end
end Go.Proofs.Ythjkdeocdhdkaaa
