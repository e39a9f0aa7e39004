/- ColumnFills, in plain Lean: the width of a filled text's rows. -/
import Derived.Test.YtphdkcdkhklicaaGreatDoorCfC
namespace Go.Proofs.YtphdkcdkhklicaaGreatDoor
set_option linter.unusedVariables false
set_option linter.unusedSimpArgs false
/-- A row without its line feed. -/
def lineOf (r : List Nat) : List Nat := if r.getLast? = some 10 then r.dropLast else r
theorem lineOf_ten (a : List Nat) : lineOf (a ++ [10]) = a := by unfold lineOf; rw [if_pos (by simp)]; simp
theorem lineOf_no {a : List Nat} (h : 10 ∉ a) : lineOf a = a := by
  unfold lineOf
  rw [if_neg (fun e => h (List.mem_of_getLast? e))]
theorem words_snoc (a : List Nat) : wordsC (a ++ [10]) = wordsC a := by
  have key : ∀ (a cur : List Nat), wordsA cur (a ++ [10]) = wordsA cur a := by
    intro a
    induction a with
    | nil => intro cur; simp [wordsA, isB]
    | cons x a ih =>
      intro cur
      rw [List.cons_append, wordsA, wordsA, ih, ih]
  exact key a []
/-- A row with more than one word is no wider than most. -/
def NarrowR (wid : Nat → Nat) (most tab : Nat) (r : List Nat) : Prop := 2 ≤ (wordsC (lineOf r)).length → widthC tab wid 0 (lineOf r) ≤ most
section
variable {wid : Nat → Nat} {most tab : Nat} {lead : List Nat}
theorem widthC_app (col : Nat) (a b : List Nat) : widthC tab wid col (a ++ b) = widthC tab wid (widthC tab wid col a) b := by unfold widthC; rw [List.foldl_append]
theorem fillF_narrow (h32 : wid 32 = 1) (hl : ∀ c ∈ lead, isT c = true) {e : List Nat} (he : e = [] ∨ e = [10]) : ∀ (ws : List (List Nat)) (col : Nat) (cur : List Nat), (∀ w ∈ ws, isWd w) → 10 ∉ cur → cur ≠ [] → widthC tab wid 0 cur = col → (2 ≤ (wordsC cur).length → col ≤ most) →
    ∀ r ∈ rowsA cur (fillF wid lead most tab col ws ++ e), NarrowR wid most tab r
  | [], col, cur, _, h10, hne, hcol, hp, r, hr => by
    unfold fillF at hr
    rcases he with rfl | rfl
    · unfold rowsA at hr; simp [hne] at hr; rw [hr]
      unfold NarrowR; rw [lineOf_no h10, hcol]; exact hp
    · simp [rowsA] at hr; rw [hr]
      unfold NarrowR; rw [lineOf_ten, hcol]; exact hp
  | w :: ws, col, cur, hw, h10, hne, hcol, hp, r, hr => by
    have hww := hw w List.mem_cons_self
    have hwt : ∀ x ∈ ws, isWd x := fun x hx => hw x (List.mem_cons_of_mem _ hx)
    have h1 := word_ten hww
    unfold fillF at hr
    split at hr
    · rename_i hle
      rw [List.append_assoc, rowsA_app (32 :: w) (by simp; exact h1)] at hr
      refine fillF_narrow h32 hl he ws _ _ hwt (by simp; exact ⟨h10, h1⟩) (by simp) ?_ (fun _ => hle) r hr
      rw [widthC_app, hcol]
      show widthC tab wid (afterN wid tab col 32) w = _
      unfold afterN; rw [if_neg (by omega), h32]
    · rw [show 10 :: lead ++ w ++ fillF wid lead most tab (widthC tab wid (widthC tab wid 0 lead) w) ws ++ e = 10 :: ((lead ++ w) ++ (fillF wid lead most tab (widthC tab wid (widthC tab wid 0 lead) w) ws ++ e)) by simp, rowsA, if_pos rfl, List.mem_cons] at hr
      rcases hr with rfl | hr
      · unfold NarrowR; rw [lineOf_ten, hcol]; exact hp
      · rw [rowsA_app (lead ++ w) (by simp; exact ⟨lead_ten hl, h1⟩), List.nil_append] at hr
        refine fillF_narrow h32 hl he ws _ _ hwt (by simp; exact ⟨lead_ten hl, h1⟩) (by simp; exact fun _ => hww.1) (widthC_app _ _ _) (fun q => ?_) r hr
        have : wordsC (lead ++ w) = [w] := by
          rw [wordsC_blanks lead (fun c hc => isT_B (hl c hc))]
          have := wordsC_word hww (cs := []) (.inl rfl)
          rw [List.append_nil] at this; rw [this]; rfl
        rw [this] at q; simp at q
theorem fillC_narrow (h32 : wid 32 = 1) {cs : List Nat} (hne : wordsC cs ≠ []) : ∀ r ∈ rowsC (fillC wid most tab cs), NarrowR wid most tab r := by
  unfold fillC
  have hwd := wordsC_wd cs
  cases hws : wordsC cs with
  | nil => exact absurd hws hne
  | cons w ws =>
    rw [hws] at hwd
    have hww := hwd w List.mem_cons_self
    show ∀ r ∈ rowsC (leadC cs ++ w ++ fillF wid (leadC cs) most tab (widthC tab wid (widthC tab wid 0 (leadC cs)) w) ws ++ endNL cs), NarrowR wid most tab r
    unfold rowsC
    rw [List.append_assoc, rowsA_app (leadC cs ++ w) (by simp; exact ⟨lead_ten (leadC_T cs), word_ten hww⟩), List.nil_append]
    refine fillF_narrow h32 (leadC_T cs) (endNL_or cs) ws _ _ (fun x hx => hwd x (List.mem_cons_of_mem _ hx)) (by simp; exact ⟨lead_ten (leadC_T cs), word_ten hww⟩) (by simp; exact fun _ => hww.1) (widthC_app _ _ _) (fun q => ?_)
    have : wordsC (leadC cs ++ w) = [w] := by
      rw [wordsC_blanks (leadC cs) (fun c hc => isT_B (leadC_T cs c hc))]
      have := wordsC_word hww (cs := []) (.inl rfl)
      rw [List.append_nil] at this; rw [this]; rfl
    rw [this] at q; simp at q
theorem line_words (r : List Nat) : wordsC (lineOf r) = wordsC r := by
  unfold lineOf
  split
  · rename_i h
    obtain ⟨a, rfl⟩ : ∃ a, r = a ++ [10] := by
      have hne : r ≠ [] := fun e => by rw [e] at h; simp at h
      obtain ⟨a, y, rfl⟩ := snoc_of hne
      have : y = 10 := by simpa using h
      exact ⟨a, by rw [this]⟩
    rw [words_snoc]; simp
  · rfl
theorem proc_narrow (h32 : wid 32 = 1) : ∀ (R : List (List Nat)) (par : List Nat), RowsOk R → ParOk R par → ∀ r ∈ rowsC (procC wid most tab R par), NarrowR wid most tab r := by
  have hfl : ∀ (R : List (List Nat)) (par : List Nat), ParOk R par → ∀ r ∈ rowsC (flC wid most tab par), NarrowR wid most tab r := by
    intro R par h r hr
    unfold flC at hr
    split at hr
    · simp [rowsC, rowsA] at hr
    · rename_i hne
      rcases h with e | ⟨hw, _⟩
      · exact absurd e hne
      · exact fillC_narrow h32 hw r hr
  intro R
  induction R with
  | nil => intro par _ h; exact hfl [] par h
  | cons r R ih =>
    intro par hR h
    by_cases hr : wordsC r = []
    · rw [proc_rows hR hr h]
      intro x hx
      rw [List.mem_append, List.mem_cons] at hx
      rcases hx with hx | rfl | hx
      · exact hfl _ par h x hx
      · intro q; rw [line_words, hr] at q; simp at q
      · exact ih [] hR.2 (.inl rfl) x hx
    · have e : procC wid most tab (r :: R) par = procC wid most tab R (par ++ r) := by rw [procC, if_neg hr]
      rw [e]
      exact ih (par ++ r) hR.2 (par_next hR hr h)
theorem fillT_narrow (h32 : wid 32 = 1) (cs : List Nat) : ∀ r ∈ rowsC (fillT wid most tab cs), NarrowR wid most tab r := proc_narrow h32 (rowsC cs) [] (rowsC_ok cs) (.inl rfl)
end
end Go.Proofs.YtphdkcdkhklicaaGreatDoor
