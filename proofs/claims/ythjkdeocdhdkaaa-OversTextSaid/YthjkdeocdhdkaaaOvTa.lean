/- Overlays: the plain law of a text under an overlay. -/
import Derived.Test.YthjkdeocdhdkaaaOvZb
namespace Go.Proofs.Ythjkdeocdhdkaaa
open Go.RowKit
set_option linter.unusedVariables false
set_option linter.unusedSimpArgs false
/-- The overlay's ends lie in the text; it covers just the characters marked 1 or 2. -/
def TInv (a b : Int) (T : List Int) : Prop := 1 ≤ a ∧ a ≤ b ∧ b ≤ (T.length : Int) + 1 ∧ ∀ (x : Nat) (z : Int), T[x]? = some z → ((a ≤ (x : Int) + 1 ∧ (x : Int) + 1 < b) ↔ (z = 1 ∨ z = 2))
def kindB (fr re : Bool) (a b k : Int) : Bool := (decide (a < k) && decide (k < b)) || ((decide (a < b) && ((decide (k = a) && !fr) || (decide (k = b) && re))) || (decide (a = b) && (decide (k = a) && (!fr && re))))
def kindI (fr re : Bool) (a b k : Int) : Int := if kindB fr re a b k then 2 else 3
theorem get_ins {T : List Int} {q n : Nat} {c z : Int} {x : Nat} (hq : q ≤ T.length) (h : (T.take q ++ List.replicate n c ++ T.drop q)[x]? = some z) :
    (x < q ∧ T[x]? = some z) ∨ (q ≤ x ∧ x < q + n ∧ z = c) ∨ (q + n ≤ x ∧ T[x - n]? = some z) := by
  rw [List.getElem?_append] at h
  split at h
  · rename_i h1
    rw [List.length_append, List.length_take, List.length_replicate, Nat.min_eq_left hq] at h1
    rw [List.getElem?_append] at h
    split at h
    · rename_i h2
      rw [List.length_take, Nat.min_eq_left hq] at h2
      rw [List.getElem?_take, if_pos h2] at h
      exact .inl ⟨h2, h⟩
    · rename_i h2
      rw [List.length_take, Nat.min_eq_left hq] at h2
      rw [List.getElem?_replicate] at h
      split at h
      · cases h; exact .inr (.inl ⟨by omega, h1, rfl⟩)
      · cases h
  · rename_i h1
    rw [List.length_append, List.length_take, List.length_replicate, Nat.min_eq_left hq] at h1
    rw [List.length_append, List.length_take, List.length_replicate, Nat.min_eq_left hq, List.getElem?_drop, show q + (x - (q + n)) = x - n by omega] at h
    exact .inr (.inr ⟨by omega, h⟩)
theorem tinv_ins {a b : Int} {T : List Int} (h : TInv a b T) (q n : Nat) (hq : q ≤ T.length) (fr re : Bool) :
    TInv (insF (1 + q) n a b fr re) (insT (1 + q) n a b fr re) (T.take q ++ List.replicate n (kindI fr re a b (1 + q)) ++ T.drop q) := by
  obtain ⟨h1, h2, h3, h4⟩ := h
  have hl : (T.take q ++ List.replicate n (kindI fr re a b (1 + q)) ++ T.drop q).length = T.length + n := by simp; omega
  unfold TInv
  rw [hl]
  refine ⟨?_, ?_, ?_, fun x z hx => ?_⟩
  · unfold insF; split <;> (try split) <;> omega
  · unfold insF insT; cases fr <;> cases re <;> simp <;> (repeat' split) <;> omega
  · unfold insT; split <;> (try split) <;> omega
  · have hk : kindI fr re a b (1 + q) = 2 ∧ kindB fr re a b (1 + q) = true ∨ kindI fr re a b (1 + q) = 3 ∧ kindB fr re a b (1 + q) = false := by
      unfold kindI; cases kindB fr re a b (1 + q) <;> simp
    rcases get_ins hq hx with ⟨g1, g2⟩ | ⟨g1, g2, g3⟩ | ⟨g1, g2⟩
    · have := h4 x z g2
      rw [← this]
      unfold insF insT; cases fr <;> cases re <;> simp <;> (repeat' split) <;> omega
    · subst g3
      rcases hk with ⟨k1, k2⟩ | ⟨k1, k2⟩
      · rw [k1]
        simp only [show ((2 : Int) = 1 ∨ (2 : Int) = 2) ↔ True by simp, iff_true]
        unfold kindB at k2
        unfold insF insT
        cases fr <;> cases re <;> simp at k2 ⊢ <;> (repeat' split) <;> omega
      · rw [k1]
        simp only [show ((3 : Int) = 1 ∨ (3 : Int) = 2) ↔ False by simp, iff_false]
        unfold kindB at k2
        unfold insF insT
        cases fr <;> cases re <;> simp at k2 ⊢ <;> (repeat' split) <;> omega
    · have := h4 (x - n) z g2
      rw [← this]
      have hc : ((x - n : Nat) : Int) = (x : Int) - n := by omega
      rw [hc]
      unfold insF insT; cases fr <;> cases re <;> simp <;> (repeat' split) <;> omega
theorem get_del {T : List Int} {q d : Nat} {z : Int} {x : Nat} (hq : q + d ≤ T.length) (h : (T.take q ++ T.drop (q + d))[x]? = some z) :
    (x < q ∧ T[x]? = some z) ∨ (q ≤ x ∧ T[x + d]? = some z) := by
  rw [List.getElem?_append] at h
  split at h
  · rename_i h1
    rw [List.length_take, Nat.min_eq_left (by omega)] at h1
    rw [List.getElem?_take, if_pos h1] at h
    exact .inl ⟨h1, h⟩
  · rename_i h1
    rw [List.length_take, Nat.min_eq_left (by omega)] at h1
    rw [List.length_take, Nat.min_eq_left (by omega), List.getElem?_drop, show q + d + (x - q) = x + d by omega] at h
    exact .inr ⟨by omega, h⟩
theorem tinv_del {a b : Int} {T : List Int} (h : TInv a b T) (q d : Nat) (hq : q + d ≤ T.length) :
    TInv (backI a (1 + q) (1 + q + d)) (backI b (1 + q) (1 + q + d)) (T.take q ++ T.drop (q + d)) := by
  obtain ⟨h1, h2, h3, h4⟩ := h
  have hl : (T.take q ++ T.drop (q + d)).length = T.length - d := by simp; omega
  unfold TInv
  rw [hl]
  refine ⟨?_, ?_, ?_, fun x z hx => ?_⟩
  · unfold backI; split <;> (try split) <;> omega
  · unfold backI; split <;> (try split) <;> (try split) <;> (try split) <;> omega
  · unfold backI; split <;> (try split) <;> omega
  · rcases get_del hq hx with ⟨g1, g2⟩ | ⟨g1, g2⟩
    · have := h4 x z g2
      rw [← this]
      unfold backI; constructor <;> intro hh <;> (repeat' split at hh) <;> (repeat' split) <;> omega
    · have := h4 (x + d) z g2
      rw [← this]
      unfold backI; constructor <;> intro hh <;> (repeat' split at hh) <;> (repeat' split) <;> omega
/-- The text at first: 1 where the overlay lies. -/
def txt0 (n : Nat) (a k : Int) : List Int := (List.range n).map fun (x : Nat) => if a ≤ (x : Int) + 1 ∧ (x : Int) + 1 < k then 1 else 0
theorem txt0_len (n : Nat) (a k : Int) : (txt0 n a k).length = n := by simp [txt0]
theorem txt0_at {n x : Nat} {a k z : Int} (h : (txt0 n a k)[x]? = some z) : x < n ∧ z = if a ≤ (x : Int) + 1 ∧ (x : Int) + 1 < k then 1 else 0 := by
  have hl := (List.getElem?_eq_some_iff.1 h).1
  rw [txt0_len] at hl
  refine ⟨hl, ?_⟩
  unfold txt0 at h
  rw [List.getElem?_map, List.getElem?_range hl] at h
  simpa using h.symm
theorem txt0_zero {n : Nat} {a : Int} : txt0 n a a = List.replicate n 0 := by
  apply List.ext_getElem?
  intro x
  by_cases hx : x < n
  · rw [List.getElem?_replicate, if_pos hx]
    unfold txt0
    rw [List.getElem?_map, List.getElem?_range hx]
    simp
  · rw [List.getElem?_eq_none (by rw [txt0_len]; omega), List.getElem?_eq_none (by simp; omega)]
theorem txt0_set {n q : Nat} {a : Int} (hq : q < n) (ha : a ≤ (q : Int) + 1) : (txt0 n a ((q : Int) + 1)).set q 1 = txt0 n a ((q : Int) + 1 + 1) := by
  apply List.ext_getElem?
  intro x
  by_cases hx : x < n
  · by_cases e : q = x
    · subst e
      rw [List.getElem?_set_self (by rw [txt0_len]; exact hx)]
      unfold txt0
      rw [List.getElem?_map, List.getElem?_range hx]
      simp; omega
    · rw [List.getElem?_set_ne e]
      unfold txt0
      rw [List.getElem?_map, List.getElem?_map, List.getElem?_range hx]
      simp only [Option.map_some, Option.some.injEq]
      have h1 : (a ≤ (x : Int) + 1 ∧ (x : Int) + 1 < (q : Int) + 1) ↔ (a ≤ (x : Int) + 1 ∧ (x : Int) + 1 < (q : Int) + 1 + 1) := by omega
      simp only [h1]
  · rw [List.getElem?_eq_none (by rw [List.length_set, txt0_len]; omega), List.getElem?_eq_none (by rw [txt0_len]; omega)]
theorem tinv_start {n : Nat} {a b : Int} (h1 : 1 ≤ a) (h2 : a ≤ b) (h3 : b ≤ (n : Int) + 1) : TInv a b (txt0 n a b) := by
  refine ⟨h1, h2, by rw [txt0_len]; exact h3, fun x z hz => ?_⟩
  obtain ⟨hx, hz⟩ := txt0_at hz
  subst hz
  by_cases hc : a ≤ (x : Int) + 1 ∧ (x : Int) + 1 < b
  · simp [hc]
  · rw [if_neg hc]; simp [hc]
/-! ### the set with this one overlay -/
def oneD (a b : Int) (fr re : Bool) : List OverD := [⟨0, a, b, fr, re, []⟩]
theorem one_ends (a b : Int) (fr re : Bool) : endsV (endsD (oneD a b fr re) 0) = .tuple #[.int .i64 a, .int .i64 b, .bool true] := rfl
theorem one_ins {a b k n : Int} {fr re : Bool} (hk : placeI k = true) (hn0 : 0 ≤ n) (hn1 : n ≤ 65536) (hb : placeI (insT k n a b fr re) = true) :
    insE (oneD a b fr re) k n = 0 ∧ insertedD (oneD a b fr re) k n = oneD (insF k n a b fr re) (insT k n a b fr re) fr re := by
  have h1 : insE (oneD a b fr re) k n = 0 := by
    unfold insE insOk oneD
    rw [hk, if_pos rfl, if_neg (by omega)]
    simp [hb]
  refine ⟨h1, ?_⟩
  unfold insertedD
  rw [h1, if_pos rfl]; rfl
theorem one_del {a b f t : Int} {fr re : Bool} (hr : rightI f t = true) : delI 2 f t (oneD a b fr re) = [] ∧ delE f t = 0 ∧ delD 2 f t (oneD a b fr re) = oneD (backI a f t) (backI b f t) fr re := by
  have hg : goesX 2 f t ⟨0, a, b, fr, re, []⟩ = false := by
    unfold goesX goesB
    have : valP (delX f t ⟨0, a, b, fr, re, []⟩).ps 2 = none := rfl
    rw [this]; simp
  unfold delI delE delD goneI leftD oneD
  rw [hr]
  simp [hg, delX]
end Go.Proofs.Ythjkdeocdhdkaaa
