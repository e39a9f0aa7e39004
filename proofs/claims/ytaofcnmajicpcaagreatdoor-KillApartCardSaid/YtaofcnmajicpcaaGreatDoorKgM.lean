/- Registers: the reference's Set. -/
import Derived.Test.YtaofcnmajicpcaaGreatDoorKgL
namespace Go.Proofs.YtaofcnmajicpcaaGreatDoor
open Go.RowKit
set_option linter.unusedVariables false
set_option linter.unusedSimpArgs false
section
variable {α β : Type} {l : List (Int × α)}
/-- Sorted lists of pairs: a pair set, taken out. -/
def rput (l : List (Int × α)) (c : Int) (y : α) : List (Int × α) := if isL l c then l.set (ixL l c) (c, y) else l.take (ixL l c) ++ [(c, y)] ++ l.drop (ixL l c)
def rdel (l : List (Int × α)) (c : Int) : List (Int × α) := if isL l c then l.take (ixL l c) ++ l.drop (ixL l c + 1) else l
theorem ixL_map (f : α → β) (l : List (Int × α)) (c : Int) : ixL (l.map (fun p => (p.1, f p.2))) c = ixL l c := by
  unfold ixL; rw [List.takeWhile_map, List.length_map]; rfl
theorem isL_map (f : α → β) (l : List (Int × α)) (c : Int) : isL (l.map (fun p => (p.1, f p.2))) c = isL l c := by
  unfold isL; rw [ixL_map, List.getElem?_map]
  cases l[ixL l c]? <;> rfl
theorem rput_map (f : α → β) (l : List (Int × α)) (c : Int) (y : α) : (rput l c y).map (fun p => (p.1, f p.2)) = rput (l.map (fun p => (p.1, f p.2))) c (f y) := by
  unfold rput
  rw [ixL_map, isL_map]
  split
  · rw [List.map_set]
  · simp
theorem rdel_map (f : α → β) (l : List (Int × α)) (c : Int) : (rdel l c).map (fun p => (p.1, f p.2)) = rdel (l.map (fun p => (p.1, f p.2))) c := by
  unfold rdel
  rw [ixL_map, isL_map]
  split
  · simp
  · rfl
theorem rput_keys (hs : (l.map (·.1)).Pairwise (· < ·)) (c : Int) (y : α) : ((rput l c y).map (·.1)).Pairwise (· < ·) := by
  unfold rput
  by_cases h : isL l c = true
  · rw [if_pos h]
    obtain ⟨x, hx⟩ := isL_at h
    have : (l.set (ixL l c) (c, y)).map (·.1) = l.map (·.1) := by
      rw [List.map_set]
      apply List.ext_getElem?
      intro j
      by_cases e : ixL l c = j
      · subst e
        have hj := (List.getElem?_eq_some_iff.1 hx).1
        rw [List.getElem?_set_self (by simpa using hj), List.getElem?_map, hx]; rfl
      · rw [List.getElem?_set_ne e]
    rw [this]; exact hs
  · rw [if_neg h]
    simp only [List.map_append, List.map_take, List.map_drop, List.map_cons, List.map_nil]
    have h1 : ∀ z ∈ (l.map (·.1)).take (ixL l c), z < c := by
      intro z hz
      obtain ⟨j, hj, he⟩ := List.getElem_of_mem hz
      simp only [List.length_take, List.length_map] at hj
      have hx : l[j]? = some (l[j]'(by omega)) := List.getElem?_eq_getElem (by omega)
      have := ixL_before l c j _ (by omega) hx
      simp at he; omega
    have h2 : ∀ z ∈ (l.map (·.1)).drop (ixL l c), c < z := by
      intro z hz
      obtain ⟨j, hj, he⟩ := List.getElem_of_mem hz
      simp at hj he
      have hx : l[ixL l c + j]? = some l[ixL l c + j] := List.getElem?_eq_getElem (by omega)
      have h3 := ixL_after hs (Nat.le_add_right _ _) hx
      rw [he] at h3
      rcases Int.lt_or_eq_of_le h3 with h4 | h4
      · exact h4
      · exfalso
        apply h
        have hlen : ixL l c < l.length := by omega
        have hq : l[ixL l c]? = some l[ixL l c] := List.getElem?_eq_getElem hlen
        have h5 := ixL_after hs (Nat.le_refl _) hq
        have h6 : l[ixL l c].1 ≤ z := by
          rcases Nat.eq_zero_or_pos j with h0 | h0
          · subst h0; simp at he; omega
          · have := List.pairwise_iff_getElem.1 hs (ixL l c) (ixL l c + j) (by simpa using hlen) (by simp; omega) (by omega)
            simp at this; omega
        unfold isL; rw [hq]; simp; omega
    refine List.pairwise_append.2 ⟨List.pairwise_append.2 ⟨hs.take, by simp, fun a ha b hb => by simp at hb; subst hb; exact h1 a ha⟩, hs.drop, fun a ha b hb => ?_⟩
    have := h2 b hb
    rcases List.mem_append.1 ha with ha | ha
    · have := h1 a ha; omega
    · simp at ha; omega
theorem rput_mem {c : Int} {y : α} {p : Int × α} (h : p ∈ rput l c y) : p ∈ l ∨ p = (c, y) := by
  unfold rput at h
  split at h
  · exact List.mem_or_eq_of_mem_set h
  · rcases List.mem_append.1 h with h | h
    · rcases List.mem_append.1 h with h | h
      · exact .inl (List.mem_of_mem_take h)
      · right; simpa using h
    · exact .inl (List.mem_of_mem_drop h)
theorem rdel_mem {c : Int} {p : Int × α} (h : p ∈ rdel l c) : p ∈ l := by
  unfold rdel at h
  split at h
  · rcases List.mem_append.1 h with h | h
    · exact List.mem_of_mem_take h
    · exact List.mem_of_mem_drop h
  · exact h
theorem rdel_keys (hs : (l.map (·.1)).Pairwise (· < ·)) (c : Int) : ((rdel l c).map (·.1)).Pairwise (· < ·) := by
  unfold rdel
  split
  · rw [← List.eraseIdx_eq_take_drop_succ]
    exact hs.sublist ((List.eraseIdx_sublist _ _).map _)
  · exact hs
theorem lookM_rput (hs : (l.map (·.1)).Pairwise (· < ·)) (c : Int) (y : α) (k : Int) : lookM (rput l c y) k = if k = c then some y else lookM l k := by
  have hs' := rput_keys hs c y
  by_cases e : k = c
  · rw [if_pos e]
    subst e
    refine lookM_of_mem (nodup_of_sorted hs') ?_
    unfold rput
    split
    · rename_i h
      obtain ⟨x, hx⟩ := isL_at h
      exact List.mem_iff_getElem?.2 ⟨ixL l k, by rw [List.getElem?_set_self (List.getElem?_eq_some_iff.1 hx).1]⟩
    · simp
  · rw [if_neg e]
    cases hx : lookM l k with
    | some x =>
      refine lookM_of_mem (nodup_of_sorted hs') ?_
      have hm := lookM_mem hx
      unfold rput
      split
      · rename_i h
        obtain ⟨j, hj⟩ := List.mem_iff_getElem?.1 hm
        obtain ⟨x', hx'⟩ := isL_at h
        refine List.mem_iff_getElem?.2 ⟨j, ?_⟩
        rw [List.getElem?_set_ne (fun e' => by subst e'; rw [hx'] at hj; cases hj; exact e rfl)]; exact hj
      · rw [← List.take_append_drop (ixL l c) l] at hm
        rcases List.mem_append.1 hm with h | h
        · exact List.mem_append_left _ (List.mem_append_left _ h)
        · exact List.mem_append_right _ h
    | none =>
      rw [lookM_none] at hx ⊢
      intro p hp
      rcases rput_mem hp with h | rfl
      · exact hx p h
      · exact fun h => e h.symm
theorem lookM_rdel (hs : (l.map (·.1)).Pairwise (· < ·)) (c : Int) (k : Int) : lookM (rdel l c) k = if k = c then none else lookM l k := by
  by_cases h : isL l c = true
  · obtain ⟨x0, hx0⟩ := isL_at h
    have hnd := nodup_of_sorted hs
    have hdel : ∀ p ∈ l, p.1 ≠ c → p ∈ rdel l c := by
      intro p hp hne
      unfold rdel
      rw [if_pos h, ← List.eraseIdx_eq_take_drop_succ]
      obtain ⟨j, hj⟩ := List.mem_iff_getElem?.1 hp
      refine List.mem_eraseIdx_iff_getElem?.2 ⟨j, fun e => ?_, hj⟩
      subst e; rw [hx0] at hj; cases hj; exact hne rfl
    by_cases e : k = c
    · rw [if_pos e, lookM_none]
      subst e
      intro p hp e2
      have hs' := rdel_keys hs k
      unfold rdel at hp
      rw [if_pos h, ← List.eraseIdx_eq_take_drop_succ] at hp
      obtain ⟨j, hne, hj⟩ := List.mem_eraseIdx_iff_getElem?.1 hp
      have h1 := (List.getElem?_eq_some_iff.1 hj).1
      have h2 := (List.getElem?_eq_some_iff.1 hx0).1
      have e3 : (l.map (·.1))[j]'(by simpa using h1) = (l.map (·.1))[ixL l k]'(by simpa using h2) := by
        have a1 := (List.getElem?_eq_some_iff.1 hj).2
        have a2 := (List.getElem?_eq_some_iff.1 hx0).2
        simp [a1, a2, e2]
      exact hne ((List.getElem_inj hnd).1 e3)
    · rw [if_neg e]
      cases hx : lookM l k with
      | some x => exact lookM_of_mem (nodup_of_sorted (rdel_keys hs c)) (hdel _ (lookM_mem hx) e)
      | none =>
        rw [lookM_none] at hx ⊢
        exact fun p hp => hx p (rdel_mem hp)
  · have hn := lookM_sorted hs c
    rw [if_neg h] at hn
    unfold rdel
    rw [if_neg h]
    split
    · rename_i e; rw [e]; exact hn
    · rfl
end
end Go.Proofs.YtaofcnmajicpcaaGreatDoor
