/- ColumnFills, in plain Lean: a whole text. -/
import Derived.Test.YtphdkcdkhklicaaGreatDoorCfB
namespace Go.Proofs.YtphdkcdkhklicaaGreatDoor
set_option linter.unusedVariables false
set_option linter.unusedSimpArgs false
def flC (wid : Nat → Nat) (most tab : Nat) (par : List Nat) : List Nat := if par = [] then [] else fillC wid most tab par
/-- What FillText makes of rows; par: the rows of the paragraph so far. -/
def procC (wid : Nat → Nat) (most tab : Nat) : List (List Nat) → List Nat → List Nat
  | [], par => flC wid most tab par
  | r :: R, par => if wordsC r = [] then flC wid most tab par ++ r ++ procC wid most tab R [] else procC wid most tab R (par ++ r)
def fillT (wid : Nat → Nat) (most tab : Nat) (cs : List Nat) : List Nat := procC wid most tab (rowsC cs) []
section
variable {wid : Nat → Nat} {most tab : Nat}
theorem proc_all : ∀ (L R : List (List Nat)) (par : List Nat), (∀ r ∈ L, wordsC r ≠ []) → procC wid most tab (L ++ R) par = procC wid most tab R (par ++ L.flatten)
  | [], R, par, _ => by simp
  | r :: L, R, par, h => by
    rw [List.cons_append, procC, if_neg (h r List.mem_cons_self), proc_all L R (par ++ r) (fun x hx => h x (List.mem_cons_of_mem _ hx))]
    simp
theorem fillC_ne {cs : List Nat} (h : wordsC cs ≠ []) : fillC wid most tab cs ≠ [] := fun e => by
  have h1 := fillC_again (wid := wid) (most := most) (tab := tab) cs h
  have e1 : wordsC (fillC wid most tab cs) = wordsC cs := fillW_words (leadC_T cs) (wordsC_wd cs) (endNL_B cs)
  rw [e] at e1
  exact h e1.symm
/-- The paragraph so far: none, or rows with words, whole ones if more rows follow. -/
def ParOk (R : List (List Nat)) (par : List Nat) : Prop := par = [] ∨ wordsC par ≠ [] ∧ (R = [] ∨ ∃ b, par = b ++ [10])
theorem fl_full {R : List (List Nat)} {r par : List Nat} (h : ParOk (r :: R) par) : fullR (flC wid most tab par) := by
  unfold flC
  split
  · exact .inl rfl
  · rename_i hne
    rcases h with e | ⟨_, e | ⟨b, rfl⟩⟩
    · exact absurd e hne
    · cases e
    · exact fillC_full
theorem fl_rows {R : List (List Nat)} {par : List Nat} (h : ParOk R par) : ∀ r ∈ rowsC (flC wid most tab par), wordsC r ≠ [] := by
  unfold flC
  split
  · simp [rowsC, rowsA]
  · rename_i hne
    rcases h with e | ⟨hw, _⟩
    · exact absurd e hne
    · exact fillC_rows hw
theorem fl_again {R : List (List Nat)} {par : List Nat} (h : ParOk R par) : flC wid most tab (flC wid most tab par) = flC wid most tab par := by
  rcases h with rfl | ⟨hw, _⟩
  · rfl
  · have hne : par ≠ [] := fun e => hw (by rw [e]; rfl)
    unfold flC
    rw [if_neg hne, if_neg (fillC_ne hw), fillC_again par hw]
theorem par_next {R : List (List Nat)} {r par : List Nat} (hR : RowsOk (r :: R)) (hr : wordsC r ≠ []) (h : ParOk (r :: R) par) : ParOk R (par ++ r) := by
  refine .inr ⟨words_right hr, ?_⟩
  rcases hR.1 with ⟨a, _, rfl⟩ | ⟨e, _⟩
  · exact .inr ⟨par ++ a, by simp⟩
  · exact .inl e
theorem row_self {R : List (List Nat)} {r : List Nat} (hR : RowsOk (r :: R)) (b : List Nat) (hb : R = [] → b = []) : rowsC (r ++ b) = r :: rowsC b := by
  rcases hR.1 with h | ⟨e, h1, h2⟩
  · exact rowsC_row h b
  · rw [hb e, List.append_nil, rowsC_end h1 h2]; simp [rowsC, rowsA]
theorem proc_nil : procC wid most tab [] [] = [] := rfl
/-- The rows of what FillText makes. -/
theorem proc_rows {R : List (List Nat)} {r par : List Nat} (hR : RowsOk (r :: R)) (hr : wordsC r = []) (h : ParOk (r :: R) par) :
    rowsC (procC wid most tab (r :: R) par) = rowsC (flC wid most tab par) ++ r :: rowsC (procC wid most tab R []) := by
  rw [procC, if_pos hr, List.append_assoc, rowsC_full (fl_full h), row_self hR _ (fun e => by rw [e]; rfl)]
theorem proc_again : ∀ (R : List (List Nat)) (par : List Nat), RowsOk R → ParOk R par → procC wid most tab (rowsC (procC wid most tab R par)) [] = procC wid most tab R par
  | [], par, _, h => by
    show procC wid most tab (rowsC (flC wid most tab par)) [] = flC wid most tab par
    have := proc_all (wid := wid) (most := most) (tab := tab) (rowsC (flC wid most tab par)) [] [] (fl_rows h)
    rw [List.append_nil] at this
    rw [this, rowsC_flat, List.nil_append]
    exact fl_again h
  | r :: R, par, hR, h => by
    by_cases hr : wordsC r = []
    · rw [proc_rows hR hr h, proc_all _ _ _ (fl_rows h), rowsC_flat, List.nil_append, procC, if_pos hr, fl_again h, proc_again R [] hR.2 (.inl rfl)]
      rw [procC, if_pos hr]
    · have e : procC wid most tab (r :: R) par = procC wid most tab R (par ++ r) := by rw [procC, if_neg hr]
      rw [e]
      exact proc_again R (par ++ r) hR.2 (par_next hR hr h)
/-- Filling a text twice. -/
theorem fillT_again (cs : List Nat) : fillT wid most tab (fillT wid most tab cs) = fillT wid most tab cs := proc_again (rowsC cs) [] (rowsC_ok cs) (.inl rfl)
/-! ### its words -/
theorem words_full {a : List Nat} (h : fullR a) (b : List Nat) : wordsC (a ++ b) = wordsC a ++ wordsC b := by
  have key : ∀ (a cur b : List Nat), (∃ c, cur ++ a = c ++ [10]) → (∀ c ∈ cur, isB c = false) → wordsA cur (a ++ b) = wordsA cur a ++ wordsA [] b := by
    intro a
    induction a with
    | nil =>
      rintro cur b ⟨c, hc⟩ hcur
      rw [List.append_nil] at hc
      have := hcur 10 (by rw [hc]; simp)
      simp [isB] at this
    | cons x a ih =>
      rintro cur b ⟨c, hc⟩ hcur
      rw [List.cons_append, wordsA, wordsA]
      by_cases hx : isB x = true
      · rw [if_pos hx, if_pos hx]
        have hrest : wordsA [] (a ++ b) = wordsA [] a ++ wordsA [] b := by
          by_cases ha : a = []
          · subst ha; simp [wordsA]
          · refine ih [] b ?_ (by simp)
            obtain ⟨a0, y, rfl⟩ := snoc_of ha
            have h2 : ((cur ++ x :: a0) ++ [y]) = c ++ [10] := by rw [← hc]; simp
            exact ⟨a0, by rw [(List.append_inj' h2 rfl).2]; rfl⟩
        split
        · exact hrest
        · rw [hrest, List.cons_append]
      · rw [if_neg hx, if_neg hx]
        refine ih (cur ++ [x]) b ⟨c, by rw [← hc]; simp⟩ (fun y hy => ?_)
        rw [List.mem_append, List.mem_singleton] at hy
        rcases hy with hy | rfl
        · exact hcur y hy
        · simpa using hx
  rcases h with rfl | ⟨c, rfl⟩
  · simp [wordsC, wordsA]
  · exact key (c ++ [10]) [] b ⟨c, rfl⟩ (by simp)
theorem fl_words {R : List (List Nat)} {par : List Nat} (h : ParOk R par) : wordsC (flC wid most tab par) = wordsC par := by
  unfold flC
  split
  · rename_i e; rw [e]
  · exact fillW_words (leadC_T par) (wordsC_wd par) (endNL_B par)
theorem par_full {R : List (List Nat)} {r par : List Nat} (h : ParOk (r :: R) par) : fullR par := by
  rcases h with e | ⟨_, e | e⟩
  · exact .inl e
  · cases e
  · exact .inr e
theorem proc_words : ∀ (R : List (List Nat)) (par : List Nat), RowsOk R → ParOk R par → wordsC (procC wid most tab R par) = wordsC (par ++ R.flatten)
  | [], par, _, h => by
    show wordsC (flC wid most tab par) = _
    rw [fl_words h]; simp
  | r :: R, par, hR, h => by
    by_cases hr : wordsC r = []
    · have hrb := words_none.1 hr
      rw [procC, if_pos hr, List.append_assoc, words_full (fl_full h), fl_words h, wordsC_blanks r hrb, proc_words R [] hR.2 (.inl rfl), List.nil_append, List.flatten_cons, words_full (par_full h), wordsC_blanks r hrb]
    · have e : procC wid most tab (r :: R) par = procC wid most tab R (par ++ r) := by rw [procC, if_neg hr]
      rw [e, proc_words R (par ++ r) hR.2 (par_next hR hr h), List.flatten_cons, List.append_assoc]
theorem fillT_words (cs : List Nat) : wordsC (fillT wid most tab cs) = wordsC cs := by
  have := proc_words (wid := wid) (most := most) (tab := tab) (rowsC cs) [] (rowsC_ok cs) (.inl rfl)
  rw [rowsC_flat, List.nil_append] at this
  exact this
/-! ### its blank lines -/
/-- The rows with a line feed and no words. -/
def blankN (L : List (List Nat)) : Nat := (L.filter fun r => (wordsC r).isEmpty && r.getLast? == some 10).length
theorem blankN_app (a b : List (List Nat)) : blankN (a ++ b) = blankN a + blankN b := by unfold blankN; rw [List.filter_append, List.length_append]
theorem blankN_no {L : List (List Nat)} (h : ∀ r ∈ L, wordsC r ≠ []) : blankN L = 0 := by
  unfold blankN
  rw [List.length_eq_zero_iff, List.filter_eq_nil_iff]
  intro r hr hq
  simp at hq
  exact h r hr hq.1
theorem proc_blanks : ∀ (R : List (List Nat)) (par : List Nat), RowsOk R → ParOk R par → blankN (rowsC (procC wid most tab R par)) = blankN R
  | [], par, _, h => by
    show blankN (rowsC (flC wid most tab par)) = 0
    exact blankN_no (fl_rows h)
  | r :: R, par, hR, h => by
    by_cases hr : wordsC r = []
    · rw [proc_rows hR hr h, blankN_app, blankN_no (fl_rows h), show r :: rowsC (procC wid most tab R []) = [r] ++ rowsC (procC wid most tab R []) from rfl, blankN_app, proc_blanks R [] hR.2 (.inl rfl), show r :: R = [r] ++ R from rfl, blankN_app]; omega
    · have e : procC wid most tab (r :: R) par = procC wid most tab R (par ++ r) := by rw [procC, if_neg hr]
      rw [e, proc_blanks R (par ++ r) hR.2 (par_next hR hr h), show r :: R = [r] ++ R from rfl, blankN_app, blankN_no (L := [r]) (by simpa using hr)]; omega
theorem fillT_blanks (cs : List Nat) : blankN (rowsC (fillT wid most tab cs)) = blankN (rowsC cs) := proc_blanks (rowsC cs) [] (rowsC_ok cs) (.inl rfl)
end
end Go.Proofs.YtphdkcdkhklicaaGreatDoor
