/- ColumnFills, in plain Lean: a line of a text; what the statement asks of each line. -/
import Derived.Test.YtphdkcdkhklicaaGreatDoorCfS
import Derived.Test.YtphdkcdkhklicaaGreatDoorZ18
namespace Go.Proofs.YtphdkcdkhklicaaGreatDoor
open Go.RowKit Go.Lib
set_option linter.unusedVariables false
set_option linter.unusedSimpArgs false
theorem getD_appL (l r : List Nat) (d j : Nat) (h : j < l.length) : (l ++ r).getD j d = l.getD j d := by
  rw [List.getD_eq_getElem?_getD, List.getD_eq_getElem?_getD, List.getElem?_append_left h]
theorem getD_appR (l r : List Nat) (d j : Nat) (h : l.length ≤ j) : (l ++ r).getD j d = r.getD (j - l.length) d := by
  rw [List.getD_eq_getElem?_getD, List.getD_eq_getElem?_getD, List.getElem?_append_right h]
theorem chr_app (a c : List Nat) (j : Nat) : chr (a ++ c) (a.length + 1 + j) = c.getD j 0 := by
  unfold chr
  rw [show a.length + 1 + j - 1 = a.length + j by omega, getD_appR _ _ _ _ (by omega)]
  congr 1; omega
theorem colF_width (wid : Nat → Nat) (tab : Nat) : ∀ (l : List Nat) (cs : List Nat) (i col : Nat), (∀ j, j < l.length → chr cs (i + j) = l.getD j 0) → colF wid cs tab l.length i col = widthC tab wid col l
  | [], cs, i, col, _ => rfl
  | c :: l, cs, i, col, h => by
    have h0 := h 0 (by simp)
    rw [Nat.add_zero] at h0
    have h0' : chr cs i = c := h0
    rw [List.length_cons, colF, h0', colF_width wid tab l cs (i + 1) _ (fun j hj => by
      have := h (j + 1) (by simp; omega)
      rw [show i + (j + 1) = i + 1 + j by omega] at this
      rw [this]; simp)]
    rfl
structure LineL (cs : List Nat) (tab p hi : Nat) (l : List Nat) (e : Nat) : Prop where
  e1 : lineE cs hi p = e
  e2 : e = p + l.length
  e3 : e ≤ hi
  tx : subL cs p e = l
  no : 10 ∉ l
  bg : lineB cs 1 e = p
  wd : colN widN cs tab p e = widthC tab widN 0 l
  row : l = [] ∨ ∃ r ∈ rowsC cs, lineOf r = l
theorem line_law (cs a c : List Nat) (tab : Nat) (hcs : cs = a ++ c) (hf : fullR a) : ∃ l e, LineL cs tab (a.length + 1) (cs.length + 1) l e ∧
    ((e = cs.length + 1 ∧ linesF cs 1 (cs.length + 1) 1 (a.length + 1) = (cs.length + 1, 1)) ∨
     (e < cs.length + 1 ∧ linesF cs 1 (cs.length + 1) 1 (a.length + 1) = (e + 1, 0) ∧ ∃ a' c', cs = a' ++ c' ∧ fullR a' ∧ e + 1 = a'.length + 1)) := by
  have hb : ∀ (l c2 : List Nat), c = l ++ c2 → 10 ∉ l → lineB cs 1 (a.length + 1 + l.length) = a.length + 1 := fun l c2 hc h10 => by
    refine lineB_eq _ _ (by omega) (by omega) (fun j h1 h2 => ?_) ?_
    · obtain ⟨d, rfl⟩ := Nat.le.dest h1
      rw [hcs, chr_app, hc, getD_appL _ _ _ _ (by omega)]
      rw [List.getD_eq_getElem?_getD, List.getElem?_eq_getElem (by omega)]
      exact fun e => h10 (by rw [← e]; exact List.getElem_mem _)
    · rcases hf with rfl | ⟨b, rfl⟩
      · exact .inl rfl
      · refine .inr ⟨by simp, ?_⟩
        rw [hcs]; unfold chr; simp
  have hw : ∀ (l c2 : List Nat), c = l ++ c2 → colN widN cs tab (a.length + 1) (a.length + 1 + l.length) = widthC tab widN 0 l := fun l c2 hc => by
    unfold colN
    rw [Nat.add_sub_cancel_left]
    exact colF_width widN tab l cs _ 0 (fun j hj => by rw [hcs, chr_app, hc, getD_appL _ _ _ _ hj])
  have hs : ∀ (l c2 : List Nat), c = l ++ c2 → subL cs (a.length + 1) (a.length + 1 + l.length) = l := fun l c2 hc => by
    unfold subL
    rw [hcs, show a.length + 1 - 1 = a.length by omega, List.drop_left, Nat.add_sub_cancel_left, hc, List.take_left]
  have hno : ∀ (l c2 : List Nat), c = l ++ c2 → 10 ∉ l → ∀ j, a.length + 1 ≤ j → j < a.length + 1 + l.length → chr cs j ≠ 10 := fun l c2 hc h10 j h1 h2 => by
    obtain ⟨d, rfl⟩ := Nat.le.dest h1
    rw [hcs, chr_app, hc, getD_appL _ _ _ _ (by omega)]
    rw [List.getD_eq_getElem?_getD, List.getElem?_eq_getElem (by omega)]
    exact fun e => h10 (by rw [← e]; exact List.getElem_mem _)
  by_cases h10 : 10 ∈ c
  · obtain ⟨l, c', hc, hl⟩ := split_ten c h10
    have hlen : cs.length = a.length + (l.length + (c'.length + 1)) := by rw [hcs, hc]; simp
    have hch : chr cs (a.length + 1 + l.length) = 10 := by
      rw [hcs, chr_app, hc, getD_appR _ _ _ _ (Nat.le_refl _)]; simp
    have he : lineE cs (cs.length + 1) (a.length + 1) = a.length + 1 + l.length := lineE_eq cs _ _ _ (by omega) (by omega) (hno l _ hc hl) (.inr hch)
    refine ⟨l, a.length + 1 + l.length, ⟨he, rfl, by omega, hs l _ hc, hl, hb l _ hc hl, hw l _ hc, .inr ⟨l ++ [10], ?_, lineOf_ten l⟩⟩, .inr ⟨by omega, ?_, a ++ (l ++ [10]), c', by rw [hcs, hc]; simp, .inr ⟨a ++ l, by simp⟩, by simp; omega⟩⟩
    · rw [hcs, rowsC_full hf, hc, show l ++ 10 :: c' = (l ++ [10]) ++ c' by simp, rowsC_row ⟨l, hl, rfl⟩ c']
      simp
    · have hfw : fwdN cs (cs.length + 1) 1 (a.length + 1) = (a.length + 1 + l.length + 1, 0) := by
        unfold fwdN
        rw [he, if_neg (by omega)]
        rfl
      unfold linesF
      rw [hfw, if_pos rfl]
      have : lineB cs 1 (a.length + 1 + l.length + 1) = a.length + 1 + l.length + 1 := lineB_eq _ _ (by omega) (Nat.le_refl _) (fun j h1 h2 => by omega) (.inr ⟨by omega, by rw [Nat.add_sub_cancel]; exact hch⟩)
      rw [this]
  · have hlen : cs.length = a.length + c.length := by rw [hcs]; simp
    have hcc : c = c ++ [] := by simp
    have he : lineE cs (cs.length + 1) (a.length + 1) = a.length + 1 + c.length := lineE_eq cs _ _ _ (by omega) (by omega) (hno c [] hcc h10) (.inl (by omega))
    refine ⟨c, a.length + 1 + c.length, ⟨he, rfl, by omega, hs c [] hcc, h10, hb c [] hcc h10, hw c [] hcc, ?_⟩, .inl ⟨by omega, ?_⟩⟩
    · by_cases hc0 : c = []
      · exact .inl hc0
      · refine .inr ⟨c, ?_, lineOf_no h10⟩
        rw [hcs, rowsC_full hf, rowsC_end hc0 h10]; simp
    · have hfw : fwdN cs (cs.length + 1) 1 (a.length + 1) = (cs.length + 1, 1) := by
        unfold fwdN
        rw [he, if_pos (by omega)]
      unfold linesF
      rw [hfw, if_neg (by simp)]
theorem sub_all (cs : List Nat) : subL cs 1 (cs.length + 1) = cs := by unfold subL; simp
/-- Filling all of a text. -/
theorem fillX_all {T : Tx} {most tab : Nat} (hN : ∀ c ∈ T.cs, isN c) : (fillX T 1 (T.cs.length + 1) most tab).cs = fillT widN most tab T.cs := by
  unfold fillX
  rw [sub_all]
  split
  · rename_i h
    exact encS_inj hN (fillT_isN widN most tab hN) h
  · show (putT (takeT T 1 (T.cs.length + 1)) 1 (fillT widN most tab T.cs) false).cs = _
    rw [putT_cs, takeT_cs]
    unfold insC delC
    simp
end Go.Proofs.YtphdkcdkhklicaaGreatDoor
