/- ColumnFills, in plain Lean: words, rows, filling; filling twice changes nothing more. -/
import Derived.Test.YtphdkcdkhklicaaGreatDoorZ02
namespace Go.Proofs.YtphdkcdkhklicaaGreatDoor
set_option linter.unusedVariables false
set_option linter.unusedSimpArgs false
/-- A blank of parts. -/
def isB (c : Nat) : Bool := c == 32 || c == 9 || c == 10
def wordsA : List Nat → List Nat → List (List Nat)
  | cur, [] => if cur = [] then [] else [cur]
  | cur, c :: cs => if isB c then (if cur = [] then wordsA [] cs else cur :: wordsA [] cs) else wordsA (cur ++ [c]) cs
def wordsC (cs : List Nat) : List (List Nat) := wordsA [] cs
def rowsA : List Nat → List Nat → List (List Nat)
  | cur, [] => if cur = [] then [] else [cur]
  | cur, c :: cs => if c = 10 then (cur ++ [10]) :: rowsA [] cs else rowsA (cur ++ [c]) cs
def rowsC (cs : List Nat) : List (List Nat) := rowsA [] cs
def isT (c : Nat) : Bool := c == 32 || c == 9
def leadC (cs : List Nat) : List Nat := cs.takeWhile isT
def endNL (cs : List Nat) : List Nat := if cs.getLast? = some 10 then [10] else []
def widthC (tab : Nat) (wid : Nat → Nat) (col : Nat) (cs : List Nat) : Nat := cs.foldl (afterN wid tab) col
/-- The words behind the first one. -/
def fillF (wid : Nat → Nat) (lead : List Nat) (most tab : Nat) : Nat → List (List Nat) → List Nat
  | _, [] => []
  | col, w :: ws => if widthC tab wid (col + 1) w ≤ most then 32 :: w ++ fillF wid lead most tab (widthC tab wid (col + 1) w) ws else 10 :: lead ++ w ++ fillF wid lead most tab (widthC tab wid (widthC tab wid 0 lead) w) ws
def fillW (wid : Nat → Nat) (lead : List Nat) (most tab : Nat) : List (List Nat) → List Nat
  | [] => []
  | w :: ws => lead ++ w ++ fillF wid lead most tab (widthC tab wid (widthC tab wid 0 lead) w) ws
def fillC (wid : Nat → Nat) (most tab : Nat) (cs : List Nat) : List Nat := fillW wid (leadC cs) most tab (wordsC cs) ++ endNL cs
/-! ### words -/
def isWd (w : List Nat) : Prop := w ≠ [] ∧ ∀ c ∈ w, isB c = false
theorem wordsA_word (w : List Nat) (h : ∀ c ∈ w, isB c = false) (cs : List Nat) : ∀ cur, wordsA cur (w ++ cs) = wordsA (cur ++ w) cs := by
  induction w with
  | nil => intro cur; simp
  | cons c w ih =>
    intro cur
    rw [List.cons_append, wordsA, h c List.mem_cons_self, if_neg (by simp), ih (fun x hx => h x (List.mem_cons_of_mem _ hx))]
    simp
theorem wordsC_blanks (b : List Nat) (h : ∀ c ∈ b, isB c = true) (cs : List Nat) : wordsC (b ++ cs) = wordsC cs := by
  induction b with
  | nil => rfl
  | cons c b ih =>
    unfold wordsC at ih ⊢
    rw [List.cons_append, wordsA, h c List.mem_cons_self, if_pos rfl, if_pos rfl, ih (fun x hx => h x (List.mem_cons_of_mem _ hx))]
/-- A word, and what follows it. -/
theorem wordsC_word {w : List Nat} (h : isWd w) : ∀ {cs : List Nat}, (cs = [] ∨ ∃ c r, cs = c :: r ∧ isB c = true) → wordsC (w ++ cs) = w :: wordsC cs := by
  intro cs hc
  unfold wordsC
  rw [wordsA_word w h.2, List.nil_append]
  rcases hc with rfl | ⟨c, r, rfl, hb⟩
  · unfold wordsA; rw [if_neg h.1, if_pos rfl]
  · rw [wordsA, if_pos hb, if_neg h.1]
    rw [wordsA, if_pos hb, if_pos rfl]
theorem wordsA_wd : ∀ (cs cur : List Nat), (∀ c ∈ cur, isB c = false) → ∀ w ∈ wordsA cur cs, isWd w
  | [], cur, h, w, hw => by
    unfold wordsA at hw
    split at hw
    · simp at hw
    · rename_i hne; simp at hw; subst hw; exact ⟨hne, h⟩
  | c :: cs, cur, h, w, hw => by
    unfold wordsA at hw
    split at hw
    · split at hw
      · exact wordsA_wd cs [] (by simp) w hw
      · rename_i hne
        rw [List.mem_cons] at hw
        rcases hw with rfl | hw
        · exact ⟨hne, h⟩
        · exact wordsA_wd cs [] (by simp) w hw
    · rename_i hb
      refine wordsA_wd cs _ (fun x hx => ?_) w hw
      rw [List.mem_append, List.mem_singleton] at hx
      rcases hx with hx | rfl
      · exact h x hx
      · simpa using hb
theorem wordsC_wd (cs : List Nat) : ∀ w ∈ wordsC cs, isWd w := wordsA_wd cs [] (by simp)
/-! ### filling a paragraph twice -/
section
variable {wid : Nat → Nat} {most tab : Nat} {lead : List Nat}
theorem isT_B {c : Nat} (h : isT c = true) : isB c = true := by unfold isT at h; unfold isB; simp at h ⊢; omega
theorem fillF_words (hl : ∀ c ∈ lead, isT c = true) : ∀ (ws : List (List Nat)) (col : Nat), (∀ w ∈ ws, isWd w) → ∀ (e : List Nat), (∀ c ∈ e, isB c = true) →
    wordsC (fillF wid lead most tab col ws ++ e) = ws ∧ (fillF wid lead most tab col ws ++ e = [] ∨ ∃ c r, fillF wid lead most tab col ws ++ e = c :: r ∧ isB c = true)
  | [], col, _, e, he => by
    unfold fillF
    rw [List.nil_append]
    refine ⟨?_, ?_⟩
    · have := wordsC_blanks e he []; rw [List.append_nil] at this; rw [this]; rfl
    · cases e with
      | nil => exact .inl rfl
      | cons c r => exact .inr ⟨c, r, rfl, he c List.mem_cons_self⟩
  | w :: ws, col, hw, e, he => by
    have hb : ∀ c ∈ lead, isB c = true := fun c hc => isT_B (hl c hc)
    unfold fillF
    split
    · obtain ⟨i1, i2⟩ := fillF_words hl ws (widthC tab wid (col + 1) w) (fun x hx => hw x (List.mem_cons_of_mem _ hx)) e he
      refine ⟨?_, .inr ⟨32, _, rfl, rfl⟩⟩
      rw [show 32 :: w ++ fillF wid lead most tab (widthC tab wid (col + 1) w) ws ++ e = [32] ++ (w ++ (fillF wid lead most tab (widthC tab wid (col + 1) w) ws ++ e)) by simp]
      rw [wordsC_blanks [32] (by simp; rfl), wordsC_word (hw w List.mem_cons_self) i2, i1]
    · obtain ⟨i1, i2⟩ := fillF_words hl ws (widthC tab wid (widthC tab wid 0 lead) w) (fun x hx => hw x (List.mem_cons_of_mem _ hx)) e he
      refine ⟨?_, .inr ⟨10, _, rfl, rfl⟩⟩
      rw [show 10 :: lead ++ w ++ fillF wid lead most tab (widthC tab wid (widthC tab wid 0 lead) w) ws ++ e = [10] ++ (lead ++ (w ++ (fillF wid lead most tab (widthC tab wid (widthC tab wid 0 lead) w) ws ++ e))) by simp]
      rw [wordsC_blanks [10] (by simp; rfl), wordsC_blanks lead hb, wordsC_word (hw w List.mem_cons_self) i2, i1]
theorem fillW_words (hl : ∀ c ∈ lead, isT c = true) {ws : List (List Nat)} (hw : ∀ w ∈ ws, isWd w) {e : List Nat} (he : ∀ c ∈ e, isB c = true) : wordsC (fillW wid lead most tab ws ++ e) = ws := by
  cases ws with
  | nil =>
    show wordsC ([] ++ e) = []
    have := wordsC_blanks e he []; rw [List.append_nil] at this; rw [List.nil_append, this]; rfl
  | cons w ws =>
    obtain ⟨i1, i2⟩ := fillF_words (wid := wid) (most := most) (tab := tab) hl ws (widthC tab wid (widthC tab wid 0 lead) w) (fun x hx => hw x (List.mem_cons_of_mem _ hx)) e he
    unfold fillW
    rw [List.append_assoc, List.append_assoc, wordsC_blanks lead (fun c hc => isT_B (hl c hc)), wordsC_word (hw w List.mem_cons_self) i2, i1]
theorem takeWhile_lead {lead w r : List Nat} (hl : ∀ c ∈ lead, isT c = true) (hw : isWd w) : leadC (lead ++ (w ++ r)) = lead := by
  unfold leadC
  rw [List.takeWhile_append_of_pos hl]
  obtain ⟨h1, h2⟩ := hw
  cases w with
  | nil => exact absurd rfl h1
  | cons c w =>
    have hc : isT c = false := by
      have := h2 c List.mem_cons_self
      unfold isB at this; unfold isT; simp at this ⊢; omega
    rw [List.cons_append, List.takeWhile_cons_of_neg (by simp [hc])]; simp
theorem leadC_T : ∀ (cs : List Nat), ∀ c ∈ leadC cs, isT c = true
  | [], c, hc => by simp [leadC] at hc
  | x :: cs, c, hc => by
    unfold leadC at hc
    rw [List.takeWhile_cons] at hc
    split at hc
    · rename_i h
      rw [List.mem_cons] at hc
      rcases hc with rfl | hc
      · exact h
      · exact leadC_T cs c hc
    · simp at hc
theorem endNL_B (cs : List Nat) : ∀ c ∈ endNL cs, isB c = true := by
  unfold endNL; split <;> simp [isB]
theorem snoc_of {w : List Nat} (h : w ≠ []) : ∃ w0 y, w = w0 ++ [y] := ⟨w.dropLast, w.getLast h, (List.dropLast_concat_getLast h).symm⟩
theorem last_app {a b : List Nat} (h : b ≠ []) : (a ++ b).getLast? = b.getLast? := by
  rw [List.getLast?_append]
  cases hb : b.getLast? with
  | none => exact absurd (List.getLast?_eq_none_iff.1 hb) h
  | some x => rfl
theorem fillF_last (hw2 : ∀ c ∈ lead, isT c = true) : ∀ (ws : List (List Nat)) (col : Nat) (x : Nat), (∀ w ∈ ws, isWd w) → x ≠ 10 → (x :: fillF wid lead most tab col ws).getLast? ≠ some 10
  | [], col, x, _, hx => by unfold fillF; simp; exact hx
  | w :: ws, col, x, hw, hx => by
    obtain ⟨h1, h2⟩ := hw w List.mem_cons_self
    obtain ⟨w0, y, rfl⟩ : ∃ w0 y, w = w0 ++ [y] := snoc_of h1
    have hy : y ≠ 10 := fun e => by have := h2 y (by simp); rw [e] at this; simp [isB] at this
    unfold fillF
    split
    · have ih := fillF_last hw2 ws (widthC tab wid (col + 1) (w0 ++ [y])) y (fun x hx => hw x (List.mem_cons_of_mem _ hx)) hy
      rw [show x :: (32 :: (w0 ++ [y]) ++ fillF wid lead most tab (widthC tab wid (col + 1) (w0 ++ [y])) ws) = (x :: 32 :: w0) ++ (y :: fillF wid lead most tab (widthC tab wid (col + 1) (w0 ++ [y])) ws) by simp]
      rw [last_app (by simp)]; exact ih
    · have ih := fillF_last hw2 ws (widthC tab wid (widthC tab wid 0 lead) (w0 ++ [y])) y (fun x hx => hw x (List.mem_cons_of_mem _ hx)) hy
      rw [show x :: (10 :: lead ++ (w0 ++ [y]) ++ fillF wid lead most tab (widthC tab wid (widthC tab wid 0 lead) (w0 ++ [y])) ws) = (x :: 10 :: lead ++ w0) ++ (y :: fillF wid lead most tab (widthC tab wid (widthC tab wid 0 lead) (w0 ++ [y])) ws) by simp]
      rw [last_app (by simp)]; exact ih
end
section
variable {wid : Nat → Nat} {most tab : Nat}
/-- Filling a paragraph twice. -/
theorem fillC_again (cs : List Nat) (hne : wordsC cs ≠ []) : fillC wid most tab (fillC wid most tab cs) = fillC wid most tab cs := by
  have hl := leadC_T cs
  have hwd := wordsC_wd cs
  have he := endNL_B cs
  have e1 : wordsC (fillC wid most tab cs) = wordsC cs := fillW_words hl hwd he
  have e2 : leadC (fillC wid most tab cs) = leadC cs := by
    unfold fillC
    cases hws : wordsC cs with
    | nil => exact absurd hws hne
    | cons w ws =>
      unfold fillW
      rw [List.append_assoc, List.append_assoc]
      exact takeWhile_lead hl (hwd w (by rw [hws]; exact List.mem_cons_self))
  have e3 : endNL (fillC wid most tab cs) = endNL cs := by
    by_cases hg : cs.getLast? = some 10
    · have h1 : endNL cs = [10] := by unfold endNL; rw [if_pos hg]
      unfold endNL
      rw [if_pos hg, if_pos (by unfold fillC; rw [h1, last_app (by simp)]; rfl)]
    · have h1 : endNL cs = [] := by unfold endNL; rw [if_neg hg]
      unfold endNL
      rw [if_neg hg, if_neg]
      unfold fillC
      rw [h1, List.append_nil]
      cases hws : wordsC cs with
      | nil => exact absurd hws hne
      | cons w ws =>
        have hww : ∀ x ∈ w :: ws, isWd x := by rw [← hws]; exact hwd
        obtain ⟨h3, h4⟩ := hww w List.mem_cons_self
        obtain ⟨w0, y, rfl⟩ : ∃ w0 y, w = w0 ++ [y] := snoc_of h3
        have hy : y ≠ 10 := fun e => by have := h4 y (by simp); rw [e] at this; simp [isB] at this
        show ¬ (leadC cs ++ (w0 ++ [y]) ++ fillF wid (leadC cs) most tab (widthC tab wid (widthC tab wid 0 (leadC cs)) (w0 ++ [y])) ws).getLast? = some 10
        rw [show leadC cs ++ (w0 ++ [y]) ++ fillF wid (leadC cs) most tab (widthC tab wid (widthC tab wid 0 (leadC cs)) (w0 ++ [y])) ws = (leadC cs ++ w0) ++ (y :: fillF wid (leadC cs) most tab (widthC tab wid (widthC tab wid 0 (leadC cs)) (w0 ++ [y])) ws) by simp]
        rw [last_app (by simp)]
        exact fillF_last hl ws _ y (fun x hx => hww x (List.mem_cons_of_mem _ hx)) hy
  show fillW wid (leadC (fillC wid most tab cs)) most tab (wordsC (fillC wid most tab cs)) ++ endNL (fillC wid most tab cs) = _
  rw [e1, e2, e3]; rfl
end
end Go.Proofs.YtphdkcdkhklicaaGreatDoor
