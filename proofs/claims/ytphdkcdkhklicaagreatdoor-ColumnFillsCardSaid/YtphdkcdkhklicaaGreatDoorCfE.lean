/- strings.FieldsFunc at a valid string, in plain Lean: its pieces are the words. -/
import Derived.Test.YtphdkcdkhklicaaGreatDoorCfC
import Derived.Test.YtphdkcdkhklicaaGreatDoorZ03
import Derived.Lib.FieldsP
namespace Go.Proofs.YtphdkcdkhklicaaGreatDoor
open Go.RowKit Go.Lib
set_option linter.unusedVariables false
set_option linter.unusedSimpArgs false
theorem extract_list (s : ByteArray) (a b : Nat) : (s.extract a b).data.toList = (s.data.toList.drop a).take (b - a) := by
  have e : (s.extract a b).data = s.data.extract a b := by simp
  rw [e, Array.toList_extract]
theorem drop_enc {s : ByteArray} {pos : Nat} {cs : List Nat} (h : charsD (s.data.toList.drop pos) = some cs) : s.data.toList.drop pos = encL cs := ((enc_chars _ _ _ (Nat.le_refl _) h).1).symm
/-- The characters between two places. -/
theorem extract_enc {s : ByteArray} {a b : Nat} {x y : List Nat} (ha : charsD (s.data.toList.drop a) = some (x ++ y)) (hb : charsD (s.data.toList.drop b) = some y) (hab : a ≤ b) (hbs : b ≤ s.size) : s.extract a b = encS x := by
  refine bytes_ext ?_
  rw [extract_list, encS_list, drop_enc ha, encL_append]
  have h1 := congrArg List.length (drop_enc ha)
  have h2 := congrArg List.length (drop_enc hb)
  rw [List.length_drop, encL_append, List.length_append] at h1
  rw [List.length_drop] at h2
  have hl : s.data.toList.length = s.size := Array.length_toList
  rw [hl] at h1 h2
  exact List.take_left' (by omega)
theorem spans_words (s : ByteArray) : ∀ (f pos : Nat) (cs : List Nat) (acc : List (Nat × Nat)) (st : Option Nat) (cur : List Nat), charsD (s.data.toList.drop pos) = some cs → s.size - pos ≤ f → pos ≤ s.size →
    ((st = none ∧ cur = []) ∨ ∃ a, st = some a ∧ cur ≠ [] ∧ a ≤ pos ∧ charsD (s.data.toList.drop a) = some (cur ++ cs)) →
    (closeSpans s (spansFromP isB s f pos st acc)).map (fun x => s.extract x.1 x.2) = acc.map (fun x => s.extract x.1 x.2) ++ (wordsA cur cs).map encS
  | f, pos, cs, acc, st, cur, hc, hf, hp, hst => by
    by_cases hlt : pos < s.size
    · obtain ⟨c, t, rfl, hd1, hd2, hd3, hd4, hcn⟩ := decode_step hlt hc
      cases f with
      | zero => omega
      | succ f =>
        unfold spansFromP
        rw [if_pos hlt, hd1]
        by_cases hb : isB c = true
        · rw [if_pos hb]
          rcases hst with ⟨rfl, rfl⟩ | ⟨a, rfl, hne, hap, hca⟩
          · simp only []
            rw [spans_words s f _ t acc none [] hd4 (by omega) hd3 (.inl ⟨rfl, rfl⟩), wordsA, if_pos hb, if_pos rfl]
          · simp only []
            rw [spans_words s f _ t _ none [] hd4 (by omega) hd3 (.inl ⟨rfl, rfl⟩), wordsA, if_pos hb, if_neg hne, List.map_append, List.map_cons, List.append_assoc]
            have := extract_enc hca hc hap (by omega)
            simp [this]
        · rw [if_neg hb]
          rcases hst with ⟨rfl, rfl⟩ | ⟨a, rfl, hne, hap, hca⟩
          · simp only []
            rw [spans_words s f _ t acc (some pos) [c] hd4 (by omega) hd3 (.inr ⟨pos, rfl, by simp, by omega, hc⟩), wordsA, if_neg hb, List.nil_append]
          · simp only []
            rw [spans_words s f _ t acc (some a) (cur ++ [c]) hd4 (by omega) hd3 (.inr ⟨a, rfl, by simp, by omega, by rw [List.append_assoc]; exact hca⟩), wordsA, if_neg hb]
    · have hcs : cs = [] := by
        have : s.data.toList.drop pos = [] := List.drop_eq_nil_of_le (by rw [Array.length_toList]; exact Nat.le_of_not_lt hlt)
        rw [this] at hc
        have := Option.some.inj hc
        exact this.symm
      subst hcs
      rw [spansFromP_end _ _ _ _ _ _ hlt]
      rcases hst with ⟨rfl, rfl⟩ | ⟨a, rfl, hne, hap, hca⟩
      · unfold closeSpans; simp [wordsA]
      · unfold closeSpans wordsA
        rw [if_neg hne]
        have hps : pos = s.size := by omega
        have := extract_enc hca hc hap hp
        rw [hps] at this
        simp [this]
/-- The pieces are the words. -/
theorem fields_words {s : ByteArray} {cs : List Nat} (h : charsD s.data.toList = some cs) : goFieldsP isB s = (wordsC cs).map encS := by
  have := spans_words s s.size 0 cs [] none [] (by rw [List.drop_zero]; exact h) (by omega) (by omega) (.inl ⟨rfl, rfl⟩)
  rw [List.map_nil, List.nil_append] at this
  exact this
end Go.Proofs.YtphdkcdkhklicaaGreatDoor
