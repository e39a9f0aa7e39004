/- MarksText: the plain law: a mark stays between its two characters. -/
import Derived.Test.YtlnpjdihdemgmaaMkH
namespace Go.Proofs.Ytlnpjdihdemgmaa
set_option linter.unusedVariables false

/-- The mark at p of text T: the characters up to number l lie before it, those from l + 1 on behind it. -/
def TInv (l : Int) (T : List Int) (p : Int) : Prop := 1 ≤ p ∧ p ≤ T.length + 1 ∧ ∀ (j : Nat) (z : Int), T[j]? = some z → z < 1000 → (z ≤ l → (j : Int) + 1 < p) ∧ (l + 1 ≤ z → p ≤ (j : Int) + 1)
def rep (n : Nat) : List Int := List.replicate n 1000
theorem rep_succ (n : Nat) : rep (n + 1) = rep n ++ [1000] := List.replicate_succ'
theorem rep_length (n : Nat) : (rep n).length = n := List.length_replicate
def slLen : Value → Nat | .slice _ n _ => n | _ => 0
def upTo (n : Nat) : List Int := (List.range n).map (fun (j : Nat) => (j : Int))
theorem upTo_succ (n : Nat) : upTo (n + 1) = upTo n ++ [(n : Int)] := by simp [upTo, List.range_succ]
theorem upTo_length (n : Nat) : (upTo n).length = n := by simp [upTo]
theorem tinv_start (n : Nat) (a : Int) (h1 : 1 ≤ a) (h2 : a ≤ n + 1) : TInv (a - 2) (upTo n) a := by
  refine ⟨h1, by rw [upTo_length]; exact h2, fun j z hz hlt => ?_⟩
  unfold upTo at hz
  rw [List.getElem?_map] at hz
  cases hr : (List.range n)[j]? with
  | none => rw [hr] at hz; cases hz
  | some i =>
    rw [hr] at hz
    have hij : i = j := by
      have := (List.getElem?_eq_some_iff.1 hr)
      obtain ⟨hl, he⟩ := this
      simpa using he.symm
    simp at hz
    subst hz
    omega
theorem tinv_del {l : Int} {T : List Int} {p : Int} (h : TInv l T p) (k n : Nat) (hk : k + n ≤ T.length) (on : Bool) : TInv l (T.take k ++ T.drop (k + n)) (delAt (k + 1) (k + 1 + n) (p, on)) := by
  obtain ⟨h1, h2, h3⟩ := h
  have hlen : (T.take k ++ T.drop (k + n)).length = T.length - n := by simp; omega
  refine ⟨?_, ?_, fun j z hz hlt => ?_⟩
  · simp only [delAt]; omega
  · rw [hlen]; simp only [delAt]; omega
  · rw [List.getElem?_append] at hz
    simp only [List.length_take] at hz
    split at hz
    · rename_i hj
      rw [List.getElem?_take, if_pos (by omega)] at hz
      have := h3 j z hz hlt
      simp only [delAt]; omega
    · rename_i hj
      rw [List.getElem?_drop] at hz
      have := h3 _ z hz hlt
      simp only [delAt]; omega
theorem tinv_ins {l : Int} {T : List Int} {p : Int} (h : TInv l T p) (k n : Nat) (hk : k ≤ T.length) (ahead on : Bool) : TInv l (T.take k ++ List.replicate n 1000 ++ T.drop k) (insAt (k + 1) n ahead (p, on)) := by
  obtain ⟨h1, h2, h3⟩ := h
  have hlen : (T.take k ++ List.replicate n 1000 ++ T.drop k).length = T.length + n := by simp; omega
  have hins : insAt (k + 1) n ahead (p, on) = p + n ∨ insAt (k + 1) n ahead (p, on) = p := by unfold insAt; split <;> simp
  have hlo : (k : Int) + 1 < p → insAt (k + 1) n ahead (p, on) = p + n := fun hp => by unfold insAt; rw [if_pos (.inl hp)]
  have hhi : p < (k : Int) + 1 → insAt (k + 1) n ahead (p, on) = p := fun hp => by unfold insAt; rw [if_neg (by simp; omega)]
  refine ⟨?_, ?_, fun j z hz hlt => ?_⟩
  · omega
  · rw [hlen]; omega
  · rw [List.getElem?_append] at hz
    simp only [List.length_append, List.length_take, List.length_replicate] at hz
    split at hz
    · rename_i hj
      rw [List.getElem?_append] at hz
      simp only [List.length_take] at hz
      split at hz
      · rename_i hj2
        rw [List.getElem?_take, if_pos (by omega)] at hz
        have := h3 j z hz hlt
        omega
      · rw [List.getElem?_replicate] at hz
        split at hz
        · simp at hz; omega
        · cases hz
    · rename_i hj
      rw [List.getElem?_drop] at hz
      have := h3 _ z hz hlt
      omega
end Go.Proofs.Ytlnpjdihdemgmaa
