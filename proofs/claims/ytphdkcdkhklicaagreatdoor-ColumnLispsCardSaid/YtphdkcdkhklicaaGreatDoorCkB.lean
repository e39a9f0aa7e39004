/- package column: what Lisp answers, in plain Lean. -/
import Derived.Test.YtphdkcdkhklicaaGreatDoorCkA
import Derived.Test.YtphdkcdkhklicaaGreatDoorZ04
import Derived.Test.YtphdkcdkhklicaaGreatDoorZ19
import Derived.Test.YtphdkcdkhklicaaGreatDoorZ13
namespace Go.Proofs.YtphdkcdkhklicaaGreatDoor
open Go.RowKit Go.Lib
set_option linter.unusedVariables false
set_option linter.unusedSimpArgs false
/-- The first position from i on, within n, whose character is neither of a word nor of a symbol. -/
def wordF (cs : List Nat) : Nat → Nat → Nat
  | 0, i => i
  | n + 1, i => if lispC (chr cs i) = 1 ∨ lispC (chr cs i) = 2 then wordF cs n (i + 1) else i
theorem wordF_is (cs : List Nat) : ∀ n i, i ≤ wordF cs n i ∧ wordF cs n i ≤ i + n ∧ (∀ j, i ≤ j → j < wordF cs n i → lispC (chr cs j) = 1 ∨ lispC (chr cs j) = 2) ∧ (wordF cs n i = i + n ∨ ¬ (lispC (chr cs (wordF cs n i)) = 1 ∨ lispC (chr cs (wordF cs n i)) = 2))
  | 0, i => ⟨Nat.le_refl _, Nat.le_refl _, fun j h1 h2 => by unfold wordF at h2; omega, .inl rfl⟩
  | n + 1, i => by
    unfold wordF
    split
    · rename_i h
      obtain ⟨a1, a2, a3, a4⟩ := wordF_is cs n (i + 1)
      refine ⟨by omega, by omega, fun j h1 h2 => ?_, ?_⟩
      · by_cases e : j = i
        · subst e; exact h
        · exact a3 j (by omega) h2
      · exact a4.elim (fun e => .inl (by omega)) .inr
    · rename_i h
      exact ⟨Nat.le_refl _, by omega, fun j h1 h2 => by omega, .inr h⟩
theorem wordF_ext {cs ds : List Nat} : ∀ n i, (∀ j, i ≤ j → j < i + n → chr cs j = chr ds j) → wordF cs n i = wordF ds n i
  | 0, i, _ => rfl
  | n + 1, i, h => by
    unfold wordF
    rw [h i (Nat.le_refl _) (by omega), wordF_ext n (i + 1) (fun j h1 h2 => h j (by omega) (by omega))]
theorem indF_ext {cs ds : List Nat} : ∀ n i, (∀ j, i ≤ j → j < i + n → chr cs j = chr ds j) → indF cs n i = indF ds n i
  | 0, i, _ => rfl
  | n + 1, i, h => by
    unfold indF
    rw [h i (Nat.le_refl _) (by omega), indF_ext n (i + 1) (fun j h1 h2 => h j (by omega) (by omega))]
/-- Behind an open delimiter at p, on whose line e ends. -/
def wordAt (cs : List Nat) (e p : Nat) : Nat := wordF cs (e - (p + 1)) (p + 1)
def formAt (cs : List Nat) (e p : Nat) : Nat := indF cs (e - wordAt cs e p) (wordAt cs e p)
def openV (cs : List Nat) (lo hi tab p : Nat) : Nat :=
  if wordAt cs (lineE cs hi p) p = p + 1 then colN widN cs tab (lineB cs lo p) p + 1
  else if bodyB (encS (subL cs (p + 1) (wordAt cs (lineE cs hi p) p))) = true then colN widN cs tab (lineB cs lo p) p + 2
  else if formAt cs (lineE cs hi p) p < lineE cs hi p ∧ ¬ lispC (chr cs (formAt cs (lineE cs hi p) p)) = 8 then colN widN cs tab (lineB cs lo (formAt cs (lineE cs hi p) p)) (formAt cs (lineE cs hi p) p)
  else colN widN cs tab (lineB cs lo p) p + 1
/-- What Lisp answers. -/
def lispV (cs : List Nat) (lo hi tab k : Nat) : Nat :=
  if ¬ (ovF (subL cs lo (lineB cs lo k)) (lineB cs lo k - lo)).inn = 0 then colN widN cs tab (lineB cs lo (indN cs (lineB cs lo k) (lineE cs hi k))) (indN cs (lineB cs lo k) (lineE cs hi k))
  else if (ovF (subL cs lo (lineB cs lo k)) (lineB cs lo k - lo)).op = [] then 0
  else openV cs lo hi tab (lo + (ovF (subL cs lo (lineB cs lo k)) (lineB cs lo k - lo)).op.getLastD 0)
/-! ### the open delimiters -/
theorem ovStep_op (c i : Nat) (S : OvS) : (ovStep c i S).op = S.op ∨ (lispC c = 4 ∧ (ovStep c i S).op = S.op ++ [i]) ∨ (ovStep c i S).op = S.op.dropLast := by
  unfold ovStep
  repeat' split
  all_goals simp_all
theorem ovF_op (cs : List Nat) : ∀ n, ∀ q ∈ (ovF cs n).op, q < n ∧ lispC (cs.getD q 0) = 4
  | 0, q, h => by simp [ovF] at h
  | n + 1, q, h => by
    have ih := ovF_op cs n
    unfold ovF at h
    rcases ovStep_op (cs.getD n 0) n (ovF cs n) with e | ⟨hc, e⟩ | e
    · rw [e] at h
      have := ih q h; omega
    · rw [e, List.mem_append, List.mem_singleton] at h
      rcases h with h | rfl
      · have := ih q h; omega
      · exact ⟨by omega, hc⟩
    · rw [e] at h
      have := ih q (List.dropLast_subset _ h); omega
theorem ovF_ext {cs ds : List Nat} : ∀ n, (∀ j, j < n → cs.getD j 0 = ds.getD j 0) → ovF cs n = ovF ds n
  | 0, _ => rfl
  | n + 1, h => by
    unfold ovF
    rw [h n (by omega), ovF_ext n (fun j hj => h j (by omega))]
end Go.Proofs.YtphdkcdkhklicaaGreatDoor
