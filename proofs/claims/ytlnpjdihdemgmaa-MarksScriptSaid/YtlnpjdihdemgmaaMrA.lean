/- MarksScript, plain: the reference's In is the list that is sorted by position and number. -/
import Derived.Test.YtlnpjdihdemgmaaMkY
namespace Go.Proofs.Ytlnpjdihdemgmaa
set_option linter.unusedVariables false

theorem strict_unique {α : Type} {R : α → α → Prop} (has : ∀ x y, R x y → R y x → False) : ∀ {l1 l2 : List α}, l1.Pairwise R → l2.Pairwise R → (∀ k, k ∈ l1 ↔ k ∈ l2) → l1 = l2
  | [], [], _, _, _ => rfl
  | [], y :: l2, _, _, h => absurd ((h y).2 List.mem_cons_self) (by simp)
  | x :: l1, [], _, _, h => absurd ((h x).1 List.mem_cons_self) (by simp)
  | x :: l1, y :: l2, h1, h2, h => by
    obtain ⟨a1, b1⟩ := List.pairwise_cons.1 h1
    obtain ⟨a2, b2⟩ := List.pairwise_cons.1 h2
    have hxy : x = y := by
      rcases List.mem_cons.1 ((h x).1 List.mem_cons_self) with e | e
      · exact e
      · rcases List.mem_cons.1 ((h y).2 List.mem_cons_self) with e' | e'
        · exact e'.symm
        · exact absurd (a2 x e) (fun r => has _ _ r (a1 y e'))
    subst hxy
    have hx1 : x ∉ l1 := fun hx => has x x (a1 x hx) (a1 x hx)
    have hx2 : x ∉ l2 := fun hx => has x x (a2 x hx) (a2 x hx)
    congr 1
    refine strict_unique has b1 b2 fun k => ?_
    have := h k
    simp only [List.mem_cons] at this
    constructor
    · intro hk
      rcases this.1 (.inr hk) with e | e
      · subst e; exact absurd hk hx1
      · exact e
    · intro hk
      rcases this.2 (.inr hk) with e | e
      · subst e; exact absurd hk hx2
      · exact e

/-- By position, then by number. -/
def ltP (p q : Int × Mk) : Prop := p.2.1 < q.2.1 ∨ (p.2.1 = q.2.1 ∧ p.1 < q.1)
/-- What the reference's In has collected when i marks are looked at. -/
structure InInv (m : List (Int × Mk)) (f t : Int) (i : Nat) (l : List (Int × Mk)) : Prop where
  pw : l.Pairwise ltP
  mem : ∀ p, p ∈ l ↔ p ∈ m.take i ∧ f ≤ p.2.1 ∧ p.2.1 ≤ t
  len : l.length ≤ i
theorem InInv.start (m : List (Int × Mk)) (f t : Int) : InInv m f t 0 [] := ⟨List.Pairwise.nil, fun p => by simp, by simp⟩
theorem mem_take_succ {α : Type} {m : List α} {i : Nat} {x p : α} (hx : m[i]? = some x) : p ∈ m.take (i + 1) ↔ p ∈ m.take i ∨ p = x := by
  obtain ⟨h, e⟩ := List.getElem?_eq_some_iff.1 hx
  rw [List.take_succ_eq_append_getElem h, List.mem_append, List.mem_singleton, e]
theorem InInv.skip {m : List (Int × Mk)} {f t : Int} {i : Nat} {l : List (Int × Mk)} (h : InInv m f t i l) {x : Int × Mk} (hx : m[i]? = some x) (hn : ¬ (f ≤ x.2.1 ∧ x.2.1 ≤ t)) : InInv m f t (i + 1) l :=
  ⟨h.pw, fun p => by
    rw [h.mem p, mem_take_succ hx]
    constructor
    · rintro ⟨a, b⟩; exact ⟨.inl a, b⟩
    · rintro ⟨a | rfl, b⟩
      · exact ⟨a, b⟩
      · exact absurd b hn, by have := h.len; omega⟩
theorem InInv.put {m : List (Int × Mk)} {f t : Int} {i : Nat} {l : List (Int × Mk)} (h : InInv m f t i l) (ha : (m.map (·.1)).Pairwise (· < ·)) {x : Int × Mk} (hx : m[i]? = some x) (h1 : f ≤ x.2.1) (h2 : x.2.1 ≤ t) {k : Nat} (hk : k ≤ l.length)
    (hup : ∀ j p, k ≤ j → l[j]? = some p → x.2.1 < p.2.1) (hlo : ∀ p, 0 < k → l[k - 1]? = some p → p.2.1 ≤ x.2.1) : InInv m f t (i + 1) (l.take k ++ [x] ++ l.drop k) := by
  have hid : ∀ p ∈ l, p.1 < x.1 := fun p hp => by
    have hp' := ((h.mem p).1 hp).1
    obtain ⟨j, hj⟩ := List.getElem?_of_mem hp'
    rw [List.getElem?_take] at hj
    split at hj
    · rename_i hji
      obtain ⟨hj1, hj2⟩ := List.getElem?_eq_some_iff.1 hj
      obtain ⟨hi1, hi2⟩ := List.getElem?_eq_some_iff.1 hx
      have := List.pairwise_iff_getElem.1 ha j i (by simpa using hj1) (by simpa using hi1) hji
      simp only [List.getElem_map, hj2, hi2] at this
      exact this
    · cases hj
  have hdrop : ∀ p ∈ l.drop k, x.2.1 < p.2.1 := fun p hp => by
    obtain ⟨j, hj⟩ := List.getElem?_of_mem hp
    rw [List.getElem?_drop] at hj
    exact hup (k + j) p (by omega) hj
  have htake : ∀ p ∈ l.take k, p.2.1 ≤ x.2.1 := fun p hp => by
    obtain ⟨j, hj⟩ := List.getElem?_of_mem hp
    rw [List.getElem?_take] at hj
    split at hj
    · rename_i hjk
      obtain ⟨hj1, rfl⟩ := List.getElem?_eq_some_iff.1 hj
      have hq : l[k - 1]? = some (l[k - 1]'(by omega)) := List.getElem?_eq_getElem _
      have hle := hlo _ (by omega) hq
      rcases Nat.lt_or_ge j (k - 1) with hlt | hge
      · have := List.pairwise_iff_getElem.1 h.pw j (k - 1) hj1 (by omega) hlt
        unfold ltP at this
        omega
      · have e : j = k - 1 := by omega
        subst e; exact hle
    · cases hj
  have hsub : (l.take k ++ l.drop k).Pairwise ltP := by rw [List.take_append_drop]; exact h.pw
  obtain ⟨p1, p2, p3⟩ := List.pairwise_append.1 hsub
  refine ⟨?_, fun p => ?_, by have := h.len; simp; omega⟩
  · rw [List.append_assoc]
    refine List.pairwise_append.2 ⟨p1, ?_, fun a ha' b hb => ?_⟩
    · rw [List.singleton_append]
      exact List.pairwise_cons.2 ⟨fun q hq => .inl (hdrop q hq), p2⟩
    · rw [List.singleton_append] at hb
      rcases List.mem_cons.1 hb with rfl | hb
      · have h1 := htake a ha'
        have h2 := hid a (List.mem_of_mem_take ha')
        unfold ltP; omega
      · exact p3 a ha' b hb
  · rw [mem_take_succ hx]
    have e : p ∈ l.take k ++ [x] ++ l.drop k ↔ p ∈ l ∨ p = x := by
      conv => rhs; rw [← List.take_append_drop k l]
      simp only [List.mem_append, List.mem_singleton]
      constructor
      · rintro ((a | a) | a)
        · exact .inl (.inl a)
        · exact .inr a
        · exact .inl (.inr a)
      · rintro ((a | a) | a)
        · exact .inl (.inl a)
        · exact .inr a
        · exact .inl (.inr a)
    rw [e, h.mem p]
    constructor
    · rintro (⟨a, b⟩ | rfl)
      · exact ⟨.inl a, b⟩
      · exact ⟨.inr rfl, h1, h2⟩
    · rintro ⟨a | a, b⟩
      · exact .inl ⟨a, b⟩
      · exact .inr a
theorem InInv.is_in {m : List (Int × Mk)} {f t : Int} {l : List (Int × Mk)} (h : InInv m f t m.length l) (hn : (m.map (·.1)).Nodup) {ls : List Int} (hm : ∀ k, k ∈ ls ↔ ∃ x, (k, x) ∈ m ∧ f ≤ x.1 ∧ x.1 ≤ t) (hp : ls.Pairwise (fun x y => cfI m x y < 0)) : ls = l.map (·.1) := by
  have hmem : ∀ p ∈ l, p ∈ m := fun p hp => by have := ((h.mem p).1 hp).1; rwa [List.take_length] at this
  refine strict_unique (R := fun x y => cfI m x y < 0) (fun x y h1 h2 => by rw [cf_lt] at h1 h2; omega) hp ?_ fun k => ?_
  · rw [List.pairwise_map]
    refine List.Pairwise.imp_of_mem ?_ h.pw
    intro p q hp hq hlt
    rw [cf_lt]
    have e1 : mkI m p.1 = p.2 := by unfold mkI; rw [lookM_of_mem hn (hmem p hp)]; rfl
    have e2 : mkI m q.1 = q.2 := by unfold mkI; rw [lookM_of_mem hn (hmem q hq)]; rfl
    rw [e1, e2]; exact hlt
  · rw [hm k]
    constructor
    · rintro ⟨x, hx, h1⟩
      exact List.mem_map.2 ⟨(k, x), (h.mem _).2 ⟨by rw [List.take_length]; exact hx, h1⟩, rfl⟩
    · intro hk
      obtain ⟨p, hp, rfl⟩ := List.mem_map.1 hk
      exact ⟨p.2, hmem p hp, ((h.mem p).1 hp).2⟩

/-! ### the reference's find, Drop, Move -/
/-- The index of the mark with a number, or -1. -/
def idxI (m : List (Int × Mk)) (id : Int) : Int := match m.findIdx? (fun p => p.1 == id) with | some i => i | none => -1
theorem idx_none {m : List (Int × Mk)} {id : Int} (h : lookM m id = none) : ∀ (i : Nat) (x : Int × Mk), m[i]? = some x → x.1 ≠ id := fun i x hx => lookM_none.1 h x (List.mem_of_getElem? hx)
theorem idx_some {m : List (Int × Mk)} {id : Int} {v : Mk} (hn : (m.map (·.1)).Nodup) (h : lookM m id = some v) : ∃ i : Nat, m[i]? = some (id, v) ∧ ∀ (j : Nat) (x : Int × Mk), j < i → m[j]? = some x → x.1 ≠ id := by
  obtain ⟨i, hi⟩ := List.getElem?_of_mem (lookM_mem h)
  refine ⟨i, hi, fun j x hj hx e => ?_⟩
  obtain ⟨h1, h2⟩ := List.getElem?_eq_some_iff.1 hi
  obtain ⟨h3, h4⟩ := List.getElem?_eq_some_iff.1 hx
  have := List.pairwise_iff_getElem.1 hn j i (by simpa using h3) (by simpa using h1) hj
  simp only [List.getElem_map, h2, h4] at this
  exact this e
theorem del_at {m : List (Int × Mk)} {id : Int} {v : Mk} {i : Nat} (hn : (m.map (·.1)).Nodup) (hi : m[i]? = some (id, v)) : m.take i ++ m.drop (i + 1) = delM m id := by
  obtain ⟨h1, h2⟩ := List.getElem?_eq_some_iff.1 hi
  have e : m = m.take i ++ (id, v) :: m.drop (i + 1) := by
    conv => lhs; rw [← List.take_append_drop i m]
    rw [List.drop_eq_getElem_cons h1, h2]
  have hn' : (m.map (·.1)).Nodup := hn
  rw [e, List.map_append, List.map_cons] at hn'
  obtain ⟨n1, n2, n3⟩ := List.nodup_append.1 hn'
  obtain ⟨n4, n5⟩ := List.nodup_cons.1 n2
  have f1 : (m.take i).filter (fun p => p.1 != id) = m.take i := List.filter_eq_self.2 fun p hp => by
    have := n3 p.1 (List.mem_map.2 ⟨p, hp, rfl⟩) id List.mem_cons_self
    simpa using this
  have f2 : (m.drop (i + 1)).filter (fun p => p.1 != id) = m.drop (i + 1) := List.filter_eq_self.2 fun p hp => by
    have : p.1 ≠ id := fun e => n4 (List.mem_map.2 ⟨p, hp, e⟩)
    simpa using this
  unfold delM
  conv => rhs; rw [e]
  rw [List.filter_append, List.filter_cons, f1, f2]
  simp
theorem set_at {m : List (Int × Mk)} {id : Int} {v : Mk} {i : Nat} (hn : (m.map (·.1)).Nodup) (hi : m[i]? = some (id, v)) (y : Mk) : m.set i (id, y) = putM m id y := by
  obtain ⟨h1, h2⟩ := List.getElem?_eq_some_iff.1 hi
  have hl : lookM m id = some v := lookM_of_mem hn (List.mem_of_getElem? hi)
  unfold putM
  rw [hl]
  simp only [Option.isSome_some, if_true]
  apply List.ext_getElem?
  intro j
  rw [List.getElem?_set, List.getElem?_map]
  by_cases e : i = j
  · subst e
    rw [if_pos rfl, if_pos h1, hi]
    simp
  · rw [if_neg e]
    cases hj : m[j]? with
    | none => rfl
    | some x =>
      have hne : x.1 ≠ id := fun he => by
        obtain ⟨h3, h4⟩ := List.getElem?_eq_some_iff.1 hj
        rcases Nat.lt_or_gt_of_ne e with hlt | hlt
        · have := List.pairwise_iff_getElem.1 hn i j (by simpa using h1) (by simpa using h3) hlt
          simp only [List.getElem_map, h2, h4] at this; exact this he.symm
        · have := List.pairwise_iff_getElem.1 hn j i (by simpa using h3) (by simpa using h1) hlt
          simp only [List.getElem_map, h2, h4] at this; exact this he
      simp [hne]
end Go.Proofs.Ytlnpjdihdemgmaa
