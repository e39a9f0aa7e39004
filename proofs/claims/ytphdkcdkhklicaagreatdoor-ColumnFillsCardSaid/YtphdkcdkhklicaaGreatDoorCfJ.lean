/- package column: fill, in plain Lean, word by word. -/
import Derived.Test.YtphdkcdkhklicaaGreatDoorCfG
import Derived.Test.YtphdkcdkhklicaaGreatDoorCfI
namespace Go.Proofs.YtphdkcdkhklicaaGreatDoor
open Go.RowKit Go.Lib
set_option linter.unusedVariables false
set_option linter.unusedSimpArgs false
theorem wordsA_in : ∀ (cs cur : List Nat), ∀ w ∈ wordsA cur cs, w.length ≤ cur.length + cs.length ∧ ∀ c ∈ w, c ∈ cur ∨ c ∈ cs
  | [], cur, w, hw => by
    unfold wordsA at hw
    split at hw
    · simp at hw
    · simp at hw; subst hw; exact ⟨by simp, fun c hc => .inl hc⟩
  | c :: cs, cur, w, hw => by
    unfold wordsA at hw
    split at hw
    · split at hw
      · obtain ⟨h1, h2⟩ := wordsA_in cs [] w hw
        refine ⟨by simp at h1 ⊢; omega, fun x hx => ?_⟩
        rcases h2 x hx with h | h
        · simp at h
        · exact .inr (List.mem_cons_of_mem _ h)
      · rw [List.mem_cons] at hw
        rcases hw with rfl | hw
        · exact ⟨by omega, fun x hx => .inl hx⟩
        · obtain ⟨h1, h2⟩ := wordsA_in cs [] w hw
          refine ⟨by simp at h1 ⊢; omega, fun x hx => ?_⟩
          rcases h2 x hx with h | h
          · simp at h
          · exact .inr (List.mem_cons_of_mem _ h)
    · obtain ⟨h1, h2⟩ := wordsA_in cs (cur ++ [c]) w hw
      refine ⟨by simp at h1 ⊢; omega, fun x hx => ?_⟩
      rcases h2 x hx with h | h
      · rw [List.mem_append, List.mem_singleton] at h
        rcases h with h | rfl
        · exact .inl h
        · exact .inr List.mem_cons_self
      · exact .inr (List.mem_cons_of_mem _ h)
theorem wordsC_in (cs : List Nat) : ∀ w ∈ wordsC cs, w.length ≤ cs.length ∧ ∀ c ∈ w, c ∈ cs := fun w hw => by
  obtain ⟨h1, h2⟩ := wordsA_in cs [] w hw
  exact ⟨by simpa using h1, fun c hc => (h2 c hc).elim (fun h => by simp at h) id⟩
theorem wordsA_many : ∀ (cs cur : List Nat), (wordsA cur cs).length ≤ cs.length + 1
  | [], cur => by unfold wordsA; split <;> simp
  | c :: cs, cur => by
    have h1 := wordsA_many cs []
    have h2 := wordsA_many cs (cur ++ [c])
    unfold wordsA
    split
    · split
      · simp; omega
      · simp; omega
    · simp; omega
theorem wordsC_many (cs : List Nat) : (wordsC cs).length ≤ cs.length + 1 := wordsA_many cs []
theorem leadC_len (cs : List Nat) : (leadC cs).length ≤ cs.length := by
  have h := congrArg List.length (List.takeWhile_append_dropWhile (p := isT) (l := cs))
  rw [List.length_append] at h
  unfold leadC; omega
theorem leadC_in (cs : List Nat) : ∀ c ∈ leadC cs, c ∈ cs := fun c hc => by
  rw [← List.takeWhile_append_dropWhile (p := isT) (l := cs)]
  exact List.mem_append_left _ hc
/-- Behind i words: what is written, and the column. -/
def FillAt (most tab : Nat) (cs : List Nat) (i : Nat) (out : List Nat) (col : Nat) : Prop :=
  (i = 0 ∧ out = [] ∧ col = 0) ∨ (1 ≤ i ∧ out ++ fillF widN (leadC cs) most tab col ((wordsC cs).drop i) = fillW widN (leadC cs) most tab (wordsC cs))
section
variable {most tab i : Nat} {cs w out : List Nat} {col : Nat}
theorem FillAt.first (h : FillAt most tab cs i out col) (hi : i = 0) (hw : (wordsC cs)[i]? = some w) : FillAt most tab cs (i + 1) (leadC cs ++ w) (widthC tab widN (widthC tab widN 0 (leadC cs)) w) := by
  subst hi
  refine .inr ⟨by omega, ?_⟩
  cases hws : wordsC cs with
  | nil => rw [hws] at hw; simp at hw
  | cons x ws =>
    rw [hws] at hw
    simp at hw
    subst hw
    rfl
theorem drop_at {α : Type} {l : List α} {i : Nat} {x : α} (h : l[i]? = some x) : l.drop i = x :: l.drop (i + 1) := by
  have hi := (List.getElem?_eq_some_iff.1 h).1
  rw [List.drop_eq_getElem_cons hi, (List.getElem?_eq_some_iff.1 h).2]
theorem FillAt.join (h : FillAt most tab cs i out col) (hi : 1 ≤ i) (hw : (wordsC cs)[i]? = some w) (hn : widthC tab widN (col + 1) w ≤ most) : FillAt most tab cs (i + 1) (out ++ 32 :: w) (widthC tab widN (col + 1) w) := by
  rcases h with ⟨h0, _, _⟩ | ⟨_, h⟩
  · omega
  · refine .inr ⟨by omega, ?_⟩
    rw [drop_at hw, fillF, if_pos hn] at h
    rw [← h]; simp
theorem FillAt.break_ (h : FillAt most tab cs i out col) (hi : 1 ≤ i) (hw : (wordsC cs)[i]? = some w) (hn : ¬ widthC tab widN (col + 1) w ≤ most) : FillAt most tab cs (i + 1) (out ++ 10 :: (leadC cs ++ w)) (widthC tab widN (widthC tab widN 0 (leadC cs)) w) := by
  rcases h with ⟨h0, _, _⟩ | ⟨_, h⟩
  · omega
  · refine .inr ⟨by omega, ?_⟩
    rw [drop_at hw, fillF, if_neg hn] at h
    rw [← h]; simp
theorem FillAt.all (h : FillAt most tab cs (wordsC cs).length out col) : out = fillW widN (leadC cs) most tab (wordsC cs) := by
  rcases h with ⟨h0, h1, _⟩ | ⟨_, h⟩
  · rw [h1, List.eq_nil_of_length_eq_zero h0]; rfl
  · rw [List.drop_of_length_le (Nat.le_refl _), fillF, List.append_nil] at h; exact h
end
end Go.Proofs.YtphdkcdkhklicaaGreatDoor
