/- ColumnFills, in plain Lean: rows; filling a text twice. -/
import Derived.Test.YtphdkcdkhklicaaGreatDoorCfA
namespace Go.Proofs.YtphdkcdkhklicaaGreatDoor
set_option linter.unusedVariables false
set_option linter.unusedSimpArgs false
/-! ### rows -/
theorem rowsA_app (a : List Nat) (h : 10 ∉ a) (b : List Nat) : ∀ cur, rowsA cur (a ++ b) = rowsA (cur ++ a) b := by
  induction a with
  | nil => intro cur; simp
  | cons c a ih =>
    intro cur
    rw [List.cons_append, rowsA, if_neg (fun e => h (by rw [e]; exact List.mem_cons_self)), ih (fun e => h (List.mem_cons_of_mem _ e))]
    simp
/-- A row with its line feed. -/
def isRow (r : List Nat) : Prop := ∃ a, 10 ∉ a ∧ r = a ++ [10]
theorem rowsC_row {r : List Nat} (h : isRow r) (b : List Nat) : rowsC (r ++ b) = r :: rowsC b := by
  obtain ⟨a, ha, rfl⟩ := h
  unfold rowsC
  rw [List.append_assoc, rowsA_app a ha, List.nil_append]
  rw [List.cons_append, List.nil_append, rowsA, if_pos rfl]
def RowsOk : List (List Nat) → Prop
  | [] => True
  | r :: R => (isRow r ∨ (R = [] ∧ r ≠ [] ∧ 10 ∉ r)) ∧ RowsOk R
theorem rowsA_ok : ∀ (cs cur : List Nat), 10 ∉ cur → RowsOk (rowsA cur cs) ∧ (rowsA cur cs).flatten = cur ++ cs
  | [], cur, h => by
    unfold rowsA
    split
    · rename_i e; subst e; exact ⟨trivial, rfl⟩
    · rename_i e; exact ⟨⟨.inr ⟨rfl, e, h⟩, trivial⟩, by simp⟩
  | c :: cs, cur, h => by
    unfold rowsA
    split
    · rename_i e
      subst e
      obtain ⟨i1, i2⟩ := rowsA_ok cs [] (by simp)
      exact ⟨⟨.inl ⟨cur, h, rfl⟩, i1⟩, by rw [List.flatten_cons, i2]; simp⟩
    · rename_i e
      obtain ⟨i1, i2⟩ := rowsA_ok cs (cur ++ [c]) (by simp; exact ⟨h, fun q => e q.symm⟩)
      exact ⟨i1, by rw [i2]; simp⟩
theorem rowsC_ok (cs : List Nat) : RowsOk (rowsC cs) := (rowsA_ok cs [] (by simp)).1
theorem rowsC_flat (cs : List Nat) : (rowsC cs).flatten = cs := by have := (rowsA_ok cs [] (by simp)).2; rwa [List.nil_append] at this
theorem rowsC_end {r : List Nat} (h1 : r ≠ []) (h2 : 10 ∉ r) : rowsC r = [r] := by
  unfold rowsC
  have := rowsA_app r h2 [] []
  rw [List.append_nil, List.nil_append] at this
  rw [this]; unfold rowsA; rw [if_neg h1]
/-- a ends with a line feed, or is empty. -/
def fullR (a : List Nat) : Prop := a = [] ∨ ∃ b, a = b ++ [10]
theorem rowsA_full : ∀ (a cur : List Nat), 10 ∉ cur → (∃ b, cur ++ a = b ++ [10]) → ∀ c, rowsA cur (a ++ c) = rowsA cur a ++ rowsC c
  | [], cur, h, ⟨b, hb⟩, c => by
    rw [List.append_nil] at hb
    exact absurd (by rw [hb]; simp) h
  | x :: a, cur, h, ⟨b, hb⟩, c => by
    rw [List.cons_append]
    by_cases e : x = 10
    · subst e
      rw [rowsA, if_pos rfl, rowsA, if_pos rfl, List.cons_append]
      congr 1
      by_cases ha : a = []
      · subst ha; simp [rowsA, rowsC]
      · refine rowsA_full a [] (by simp) ?_ c
        obtain ⟨a0, y, rfl⟩ := snoc_of ha
        refine ⟨a0, ?_⟩
        have h2 : ((cur ++ 10 :: a0) ++ [y]) = b ++ [10] := by rw [← hb]; simp
        have := (List.append_inj' h2 rfl).2
        rw [this]; rfl
    · rw [rowsA, if_neg e, rowsA, if_neg e]
      refine rowsA_full a (cur ++ [x]) (by simp; exact ⟨h, fun q => e q.symm⟩) ⟨b, by rw [← hb]; simp⟩ c
theorem rowsC_full {a : List Nat} (h : fullR a) (c : List Nat) : rowsC (a ++ c) = rowsC a ++ rowsC c := by
  rcases h with rfl | ⟨b, rfl⟩
  · simp [rowsC, rowsA]
  · exact rowsA_full (b ++ [10]) [] (by simp) ⟨b, rfl⟩ c
/-! ### has a word -/
theorem words_none {cs : List Nat} : wordsC cs = [] ↔ ∀ c ∈ cs, isB c = true := by
  constructor
  · intro h
    have key : ∀ (cs cur : List Nat), wordsA cur cs = [] → cur = [] ∧ ∀ c ∈ cs, isB c = true := by
      intro cs
      induction cs with
      | nil => intro cur h; unfold wordsA at h; split at h; rename_i e; exact ⟨e, by simp⟩; simp at h
      | cons c cs ih =>
        intro cur h
        unfold wordsA at h
        split at h
        · rename_i hb
          split at h
          · rename_i e
            refine ⟨e, fun x hx => ?_⟩
            rw [List.mem_cons] at hx
            rcases hx with rfl | hx
            · exact hb
            · exact (ih [] h).2 x hx
          · simp at h
        · have := (ih _ h).1
          simp at this
    exact (key cs [] h).2
  · intro h
    have := wordsC_blanks cs h []
    rw [List.append_nil] at this
    rw [this]; rfl
theorem words_some {cs : List Nat} : wordsC cs ≠ [] ↔ ∃ c ∈ cs, isB c = false := by
  rw [ne_eq, words_none]
  constructor
  · intro h
    apply Classical.byContradiction
    intro hn
    exact h (fun c hc => by cases hb : isB c with | true => rfl | false => exact absurd ⟨c, hc, hb⟩ hn)
  · rintro ⟨c, hc, hb⟩ h
    rw [h c hc] at hb; cases hb
theorem words_left {a b : List Nat} (h : wordsC a ≠ []) : wordsC (a ++ b) ≠ [] := by
  rw [words_some] at h ⊢
  obtain ⟨c, hc, hb⟩ := h
  exact ⟨c, List.mem_append_left _ hc, hb⟩
theorem words_right {a b : List Nat} (h : wordsC b ≠ []) : wordsC (a ++ b) ≠ [] := by
  rw [words_some] at h ⊢
  obtain ⟨c, hc, hb⟩ := h
  exact ⟨c, List.mem_append_right _ hc, hb⟩
theorem word_ten {w : List Nat} (h : isWd w) : 10 ∉ w := fun e => by have := h.2 10 e; simp [isB] at this
theorem lead_ten {l : List Nat} (h : ∀ c ∈ l, isT c = true) : 10 ∉ l := fun e => by have := h 10 e; simp [isT] at this
theorem wd_words {w : List Nat} (h : isWd w) : wordsC w ≠ [] := by
  rw [words_some]
  obtain ⟨h1, h2⟩ := h
  cases w with
  | nil => exact absurd rfl h1
  | cons c w => exact ⟨c, List.mem_cons_self, h2 c List.mem_cons_self⟩
section
variable {wid : Nat → Nat} {most tab : Nat} {lead : List Nat}
theorem fillF_rows (hl : ∀ c ∈ lead, isT c = true) {e : List Nat} (he : e = [] ∨ e = [10]) : ∀ (ws : List (List Nat)) (col : Nat) (cur : List Nat), (∀ w ∈ ws, isWd w) → 10 ∉ cur → wordsC cur ≠ [] →
    ∀ r ∈ rowsA cur (fillF wid lead most tab col ws ++ e), wordsC r ≠ []
  | [], col, cur, _, h10, hcur, r, hr => by
    have hne : cur ≠ [] := fun q => hcur (by rw [q]; rfl)
    unfold fillF at hr
    rcases he with rfl | rfl
    · unfold rowsA at hr; simp [hne] at hr; rw [hr]; exact hcur
    · simp [rowsA] at hr; rw [hr]; exact words_left hcur
  | w :: ws, col, cur, hw, h10, hcur, r, hr => by
    have hww := hw w List.mem_cons_self
    have hwt : ∀ x ∈ ws, isWd x := fun x hx => hw x (List.mem_cons_of_mem _ hx)
    have h1 := word_ten hww
    unfold fillF at hr
    split at hr
    · rw [List.append_assoc, rowsA_app (32 :: w) (by simp; exact h1)] at hr
      exact fillF_rows hl he ws _ _ hwt (by simp; exact ⟨h10, h1⟩) (words_left hcur) r hr
    · rw [show 10 :: lead ++ w ++ fillF wid lead most tab (widthC tab wid (widthC tab wid 0 lead) w) ws ++ e = 10 :: ((lead ++ w) ++ (fillF wid lead most tab (widthC tab wid (widthC tab wid 0 lead) w) ws ++ e)) by simp, rowsA, if_pos rfl, List.mem_cons] at hr
      rcases hr with rfl | hr
      · exact words_left hcur
      · rw [rowsA_app (lead ++ w) (by simp; exact ⟨lead_ten hl, h1⟩)] at hr
        exact fillF_rows hl he ws _ _ hwt (by simp; exact ⟨lead_ten hl, h1⟩) (by rw [List.nil_append]; exact words_right (wd_words hww)) r hr
theorem endNL_or (cs : List Nat) : endNL cs = [] ∨ endNL cs = [10] := by unfold endNL; split <;> simp
theorem fillC_rows {cs : List Nat} (hne : wordsC cs ≠ []) : ∀ r ∈ rowsC (fillC wid most tab cs), wordsC r ≠ [] := by
  unfold fillC
  have hwd := wordsC_wd cs
  cases hws : wordsC cs with
  | nil => exact absurd hws hne
  | cons w ws =>
    rw [hws] at hwd
    have hww := hwd w List.mem_cons_self
    show ∀ r ∈ rowsC (leadC cs ++ w ++ fillF wid (leadC cs) most tab (widthC tab wid (widthC tab wid 0 (leadC cs)) w) ws ++ endNL cs), wordsC r ≠ []
    unfold rowsC
    rw [List.append_assoc, rowsA_app (leadC cs ++ w) (by simp; exact ⟨lead_ten (leadC_T cs), word_ten hww⟩)]
    exact fillF_rows (leadC_T cs) (endNL_or cs) ws _ _ (fun x hx => hwd x (List.mem_cons_of_mem _ hx)) (by simp; exact ⟨lead_ten (leadC_T cs), word_ten hww⟩) (by rw [List.nil_append]; exact words_right (wd_words hww))
theorem fillC_full {b : List Nat} : fullR (fillC wid most tab (b ++ [10])) := by
  refine .inr ⟨fillW wid (leadC (b ++ [10])) most tab (wordsC (b ++ [10])), ?_⟩
  unfold fillC
  congr 1
  unfold endNL; rw [if_pos (by simp)]
end
end Go.Proofs.YtphdkcdkhklicaaGreatDoor
