/- Sequences of acts: what stays true of the set; an insertion and the deletion of the same range. -/
import Derived.Test.YtlnpjdihdemgmaaMkI
import Derived.Test.YtlnpjdihdemgmaaMkR
namespace Go.Proofs.Ytlnpjdihdemgmaa
set_option linter.unusedVariables false

/-- After at most k acts: the numbers ascend, and there are at most k. -/
structure DoInv (m : List (Int × Mk)) (n : Int) (k : Nat) : Prop where
  asc : (m.map (·.1)).Pairwise (· < ·)
  n0 : 0 ≤ n
  n1 : n ≤ k
  len : m.length ≤ k
theorem DoInv.start : DoInv [] 0 0 := ⟨by simp, by omega, by omega, by simp⟩
theorem DoInv.same {m m' : List (Int × Mk)} {n : Int} {k : Nat} (h : DoInv m n k) (hk : m'.map (·.1) = m.map (·.1)) : DoInv m' n (k + 1) :=
  ⟨hk ▸ h.asc, h.n0, by have := h.n1; omega, by have := h.len; have : m'.length = m.length := by simpa using congrArg List.length hk
                                                omega⟩
theorem delM_keys (m : List (Int × Mk)) (id : Int) : (delM m id).map (·.1) = (m.map (·.1)).filter (· != id) := by
  unfold delM
  induction m with
  | nil => rfl
  | cons p m ih =>
    simp only [List.filter_cons, List.map_cons]
    split
    · rw [List.map_cons, ih]
    · exact ih
theorem DoInv.step {m : List (Int × Mk)} {n : Int} {k : Nat} (h : DoInv m n k) (hid : ∀ p ∈ m, 0 ≤ p.1 ∧ p.1 < n) (a : Act6) : DoInv (doR m n a).m (doR m n a).n (k + 1) := by
  have hk : ∀ {r : DoR}, r.m = m → r.n = n → DoInv r.m r.n (k + 1) := fun h1 h2 => by rw [h1, h2]; exact h.same rfl
  unfold doR
  split
  · unfold addR
    split
    · exact hk rfl rfl
    · split
      · exact hk rfl rfl
      · refine ⟨?_, by have := h.n0; dsimp only; omega, by have := h.n1; dsimp only; omega, by have := h.len; simp; omega⟩
        simp only [List.map_append, List.map_cons, List.map_nil]
        refine List.pairwise_append.2 ⟨h.asc, by simp, fun x hx y hy => ?_⟩
        obtain ⟨p, hp, rfl⟩ := List.mem_map.1 hx
        simp at hy
        subst hy
        exact (hid p hp).2
  · split
    · unfold dropR
      split
      · exact hk rfl rfl
      · refine ⟨?_, h.n0, by have := h.n1; dsimp only; omega, ?_⟩
        · show ((delM m a.id).map (·.1)).Pairwise (· < ·)
          rw [delM_keys]; exact h.asc.filter _
        · have := h.len
          have h2 : (delM m a.id).length ≤ m.length := List.length_filter_le _ _
          show (delM m a.id).length ≤ k + 1
          omega
    · split
      · unfold moveR
        split
        · exact hk rfl rfl
        · rename_i x hx
          split
          · exact hk rfl rfl
          · exact h.same (putM_keys_old (by rw [hx]; rfl))
      · split
        · unfold setR
          split
          · exact hk rfl rfl
          · rename_i x hx
            exact h.same (putM_keys_old (by rw [hx]; rfl))
        · split
          · unfold insR
            split
            · exact hk rfl rfl
            · split
              · exact hk rfl rfl
              · split
                · exact h.same (by simp [insM_, List.map_map, Function.comp_def])
                · exact hk rfl rfl
          · unfold delR
            split
            · exact h.same (by simp [delM_, List.map_map, Function.comp_def])
            · exact hk rfl rfl

/-- Inserted, then deleted again. -/
theorem ins_del (a k : Int) (ahead : Bool) (hk : 0 ≤ k) (m : List (Int × Mk)) : delM_ a (a + k) (insM_ a k ahead m) = m := by
  unfold delM_ insM_
  rw [List.map_map]
  refine (List.map_congr_left fun p hp => ?_).trans (List.map_id _)
  obtain ⟨i, x, v⟩ := p
  simp only [Function.comp_def, id_eq]
  congr 2
  unfold insAt
  dsimp only
  split
  · unfold delAt; dsimp only; rw [if_pos (by omega)]; omega
  · unfold delAt
    dsimp only
    split
    · rename_i h1 h2
      have : ¬ a < x := fun h => h1 (.inl h)
      omega
    · split
      · rename_i h1 _ h2
        exact absurd (.inl h2) h1
      · rfl
theorem ins_cases (m : List (Int × Mk)) (n a k : Int) (ahead : Bool) :
    ((insR m n a k ahead).err ≠ 0 ∧ (insR m n a k ahead).m = m ∧ (insR m n a k ahead).n = n) ∨
    (insR m n a k ahead = ⟨insM_ a k ahead m, n, 0, 0⟩ ∧ 1 ≤ a ∧ a ≤ 1099511627776 ∧ 0 ≤ k ∧ k ≤ 65536) := by
  unfold insR
  by_cases h1 : placeI a = false
  · rw [if_pos h1]; exact .inl ⟨by simp, rfl, rfl⟩
  · rw [if_neg h1]
    have h1' : placeI a = true := by simpa using h1
    obtain ⟨p1, p2⟩ := placeI_true h1'
    by_cases h2 : k < 0 ∨ 65536 < k
    · rw [if_pos h2]; exact .inl ⟨by simp, rfl, rfl⟩
    · rw [if_neg h2]
      split
      · exact .inr ⟨rfl, p1, p2, by omega, by omega⟩
      · exact .inl ⟨by simp, rfl, rfl⟩
theorem insM_keys (a k : Int) (ahead : Bool) (m : List (Int × Mk)) : (insM_ a k ahead m).map (·.1) = m.map (·.1) := by simp [insM_, List.map_map, Function.comp_def]
theorem insM_length (a k : Int) (ahead : Bool) (m : List (Int × Mk)) : (insM_ a k ahead m).length = m.length := by simp [insM_]
end Go.Proofs.Ytlnpjdihdemgmaa
