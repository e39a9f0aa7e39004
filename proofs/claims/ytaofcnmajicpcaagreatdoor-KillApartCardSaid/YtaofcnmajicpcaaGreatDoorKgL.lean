/- Registers: the reference's Get, Names. -/
import Derived.Test.YtaofcnmajicpcaaGreatDoorKgK
namespace Go.Proofs.YtaofcnmajicpcaaGreatDoor
open Go.RowKit
set_option linter.unusedVariables false
set_option linter.unusedSimpArgs false
section
variable {w w' : World} {bo : Nat} {v : Value} {l : List (Int × Reg)}
theorem isL_at {α : Type} {l : List (Int × α)} {c : Int} (h : isL l c = true) : ∃ x, l[ixL l c]? = some (c, x) := by
  unfold isL at h
  cases hx : l[ixL l c]? with
  | none => rw [hx] at h; cases h
  | some p => rw [hx] at h; obtain ⟨a, x⟩ := p; simp at h; subst h; exact ⟨x, rfl⟩
theorem ixL_before {α : Type} : ∀ (l : List (Int × α)) (c : Int) (j : Nat) (x : Int × α), j < ixL l c → l[j]? = some x → x.1 < c
  | [], c, j, x, hj, _ => by simp [ixL] at hj
  | a :: l, c, j, x, hj, hx => by
    unfold ixL at hj
    rw [List.takeWhile_cons] at hj
    by_cases h : a.1 < c
    · rw [if_pos (by simpa using h), List.length_cons] at hj
      cases j with
      | zero => simp at hx; subst hx; exact h
      | succ j => exact ixL_before l c j x (by unfold ixL; omega) (by simpa using hx)
    · rw [if_neg (by simpa using h)] at hj; simp at hj
theorem ixL_after {α : Type} {l : List (Int × α)} (hs : (l.map (·.1)).Pairwise (· < ·)) {c : Int} {j : Nat} {x : Int × α} (hj : ixL l c ≤ j) (hx : l[j]? = some x) : c ≤ x.1 := by
  induction l generalizing j with
  | nil => simp at hx
  | cons a l ih =>
    rw [List.map_cons, List.pairwise_cons] at hs
    unfold ixL at hj
    rw [List.takeWhile_cons] at hj
    by_cases h : a.1 < c
    · rw [if_pos (by simpa using h), List.length_cons] at hj
      cases j with
      | zero => omega
      | succ j => exact ih hs.2 (j := j) (by unfold ixL; omega) (by simpa using hx)
    · cases j with
      | zero => simp at hx; subst hx; omega
      | succ j =>
        have hm : x ∈ l := List.mem_of_getElem? (by simpa using hx)
        have := hs.1 x.1 (List.mem_map.2 ⟨x, hm, rfl⟩)
        omega
theorem nodup_of_sorted {ks : List Int} (h : ks.Pairwise (· < ·)) : ks.Nodup := h.imp fun h => by omega
theorem lookM_sorted {α : Type} {l : List (Int × α)} (hs : (l.map (·.1)).Pairwise (· < ·)) (c : Int) : lookM l c = if isL l c then (l[ixL l c]?).map (·.2) else none := by
  by_cases h : isL l c = true
  · rw [if_pos h]
    obtain ⟨x, hx⟩ := isL_at h
    rw [hx, lookM_of_mem (nodup_of_sorted hs) (List.mem_of_getElem? hx)]; rfl
  · rw [if_neg h, lookM_none]
    intro p hp e
    obtain ⟨j, hj, he⟩ := List.getElem_of_mem hp
    have hx : l[j]? = some p := by rw [List.getElem?_eq_getElem hj, he]
    rcases Nat.lt_or_ge j (ixL l c) with h1 | h1
    · have := ixL_before l c j p h1 hx; omega
    · rcases Nat.eq_or_lt_of_le h1 with h2 | h2
      · apply h; unfold isL; rw [h2, hx]; simp [e]
      · have hlen : ixL l c < l.length := by have := (List.getElem?_eq_some_iff.1 hx).1; omega
        obtain ⟨q, hq⟩ : ∃ q, l[ixL l c]? = some q := ⟨_, List.getElem?_eq_getElem hlen⟩
        have h3 := ixL_after hs (Nat.le_refl _) hq
        have h4 := List.pairwise_iff_getElem.1 hs (ixL l c) j (by simpa using hlen) (by simpa using hj) h2
        rw [List.getElem_map, List.getElem_map] at h4
        have e1 : l[ixL l c] = q := by rw [List.getElem?_eq_getElem hlen] at hq; exact Option.some.inj hq
        rw [e1, he] at h4
        omega
end
end Go.Proofs.YtaofcnmajicpcaaGreatDoor
