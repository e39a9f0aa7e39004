/- A slice of acts among the arguments. -/
import Derived.Test.YtlnpjdihdemgmaaMkH
namespace Go.Proofs.Ytlnpjdihdemgmaa
open Go.RowKit
set_option linter.unusedVariables false

/-- The cells of act a at block b from offset o on. -/
def ActAt (w : World) (b o : Nat) (a : Act6) : Prop :=
  w.cell? ⟨b, o, none⟩ = some (.int .i64 a.kind) ∧ w.cell? ⟨b, o + 1, none⟩ = some (.int .i64 a.id) ∧ w.cell? ⟨b, o + 2, none⟩ = some (.int .i64 a.at_) ∧ w.cell? ⟨b, o + 3, none⟩ = some (.int .i64 a.to) ∧ w.cell? ⟨b, o + 4, none⟩ = some (.int .i64 a.n) ∧ w.cell? ⟨b, o + 5, none⟩ = some (.bool a.on)
/-- The slice sv holds the acts l. -/
def ActsAt (w : World) (sv : Value) (l : List Act6) : Prop :=
  (l = [] ∧ ∃ a cap, sv = .slice a 0 cap) ∨ ∃ b off cap, sv = .slice (some ⟨b, off, none⟩) l.length cap ∧ 0 < l.length ∧ l.length ≤ cap ∧ cap ≤ maxLen ∧ b < w.heap.size ∧ ∀ (i : Nat) (a : Act6), l[i]? = some a → ActAt w b (off + i * 6) a
theorem ActAt.kept {w w' : World} {b o : Nat} {a : Act6} (h : ActAt w b o a) (hb : w'.heap[b]? = w.heap[b]?) : ActAt w' b o a := by
  obtain ⟨a0, a1, a2, a3, a4, a5⟩ := h
  exact ⟨(World.cell?_of_block (w := w) (a := ⟨b, o, none⟩) hb).trans a0, (World.cell?_of_block (w := w) (a := ⟨b, o + 1, none⟩) hb).trans a1, (World.cell?_of_block (w := w) (a := ⟨b, o + 2, none⟩) hb).trans a2, (World.cell?_of_block (w := w) (a := ⟨b, o + 3, none⟩) hb).trans a3, (World.cell?_of_block (w := w) (a := ⟨b, o + 4, none⟩) hb).trans a4, (World.cell?_of_block (w := w) (a := ⟨b, o + 5, none⟩) hb).trans a5⟩

/-! ### MarksOrder: the plain law -/
/-- The two marks: number p at a with flag on, number q at b with flag also. -/
def two (p : Int) (a : Int) (on : Bool) (b : Int) (also : Bool) : List (Int × Mk) := if p = 0 then [(0, (a, on)), (1, (b, also))] else [(0, (b, also)), (1, (a, on))]
theorem two_p {p q a b : Int} {on also : Bool} (h : (p = 0 ∧ q = 1) ∨ (p = 1 ∧ q = 0)) : lookM (two p a on b also) p = some (a, on) ∧ lookM (two p a on b also) q = some (b, also) := by
  rcases h with ⟨rfl, rfl⟩ | ⟨rfl, rfl⟩ <;> simp [two, lookM]
theorem two_ins {p a b : Int} {on also : Bool} (h : p = 0 ∨ p = 1) (at_ k : Int) (ahead : Bool) : insM_ at_ k ahead (two p a on b also) = two p (insAt at_ k ahead (a, on)) on (insAt at_ k ahead (b, also)) also := by
  rcases h with rfl | rfl <;> simp [two, insM_]
theorem two_del {p a b : Int} {on also : Bool} (h : p = 0 ∨ p = 1) (f t : Int) : delM_ f t (two p a on b also) = two p (delAt f t (a, on)) on (delAt f t (b, also)) also := by
  rcases h with rfl | rfl <;> simp [two, delM_]
theorem two_swap {p q a b : Int} {on also : Bool} (h : (p = 0 ∧ q = 1) ∨ (p = 1 ∧ q = 0)) : two p a on b also = two q b also a on := by
  rcases h with ⟨rfl, rfl⟩ | ⟨rfl, rfl⟩ <;> simp [two]
theorem two_ats {p a b : Int} {on also : Bool} {P : Int × Mk → Prop} (h : ∀ x ∈ two p a on b also, P x) (hp : p = 0 ∨ p = 1) : ∃ i j, P (i, (a, on)) ∧ P (j, (b, also)) := by
  rcases hp with rfl | rfl
  · exact ⟨0, 1, h _ (by simp [two]), h _ (by simp [two])⟩
  · exact ⟨1, 0, h _ (by simp [two]), h _ (by simp [two])⟩

/-- What one adjustment does to the two marks. -/
theorem order_step {p q a b : Int} {on also : Bool} (hpq : (p = 0 ∧ q = 1) ∨ (p = 1 ∧ q = 0)) (hab : a ≤ b) (act : Act6) (hk : 5 ≤ pickI act.kind 8) (hk8 : pickI act.kind 8 < 8) :
    ∃ x y, doR (two p a on b also) 2 act = ⟨two p x on y also, 2, 0, (doR (two p a on b also) 2 act).err⟩ ∧
      (((doR (two p a on b also) 2 act).err ≠ 0 ∧ x = a ∧ y = b) ∨
       ((doR (two p a on b also) 2 act).err = 0 ∧ pickI act.kind 8 < 7 ∧ a = b ∧ on = true ∧ also = false ∧ act.at_ = a ∧ act.on = false ∧ x - y = act.n ∧ 0 ≤ act.n ∧ act.n ≤ 65536) ∨
       ((doR (two p a on b also) 2 act).err = 0 ∧ pickI act.kind 8 < 7 ∧ ¬ (a = b ∧ on = true ∧ also = false ∧ act.at_ = a ∧ act.on = false) ∧ x ≤ y) ∨
       ((doR (two p a on b also) 2 act).err = 0 ∧ pickI act.kind 8 = 7 ∧ x ≤ y ∧ (a < b → x = y → act.at_ ≤ a ∧ b ≤ act.to))) := by
  have hp : p = 0 ∨ p = 1 := by rcases hpq with h | h <;> omega
  by_cases h7 : pickI act.kind 8 = 7
  · have e : doR (two p a on b also) 2 act = delR (two p a on b also) 2 act.at_ act.to := by
      unfold doR; rw [if_neg (by omega), if_neg (by omega), if_neg (by omega), if_neg (by omega), if_neg (by omega)]
    rw [e]
    unfold delR
    by_cases ho : delOk act.at_ act.to = true
    · rw [if_pos ho]
      have hle : act.at_ ≤ act.to := by simp [delOk] at ho; exact ho.2.2
      refine ⟨_, _, by rw [two_del hp], .inr (.inr (.inr ⟨rfl, h7, ?_, ?_⟩))⟩
      · simp only [delAt]; omega
      · simp only [delAt]; omega
    · rw [if_neg ho]
      exact ⟨a, b, rfl, .inl ⟨by simp, rfl, rfl⟩⟩
  · have e : doR (two p a on b also) 2 act = insR (two p a on b also) 2 act.at_ act.n act.on := by
      unfold doR; rw [if_neg (by omega), if_neg (by omega), if_neg (by omega), if_neg (by omega), if_pos (by omega)]
    rw [e]
    unfold insR
    by_cases h1 : placeI act.at_ = false
    · rw [if_pos h1]; exact ⟨a, b, rfl, .inl ⟨by simp, rfl, rfl⟩⟩
    · rw [if_neg h1]
      by_cases h2 : act.n < 0 ∨ 65536 < act.n
      · rw [if_pos h2]; exact ⟨a, b, rfl, .inl ⟨by simp, rfl, rfl⟩⟩
      · rw [if_neg h2]
        by_cases h3 : ((two p a on b also).all (fun p => placeI (insAt act.at_ act.n act.on p.2))) = true
        · rw [if_pos h3]
          refine ⟨_, _, by rw [two_ins hp], ?_⟩
          by_cases hov : a = b ∧ on = true ∧ also = false ∧ act.at_ = a ∧ act.on = false
          · obtain ⟨v1, v2, v3, v4, v5⟩ := hov
            refine .inr (.inl ⟨rfl, by omega, v1, v2, v3, v4, v5, ?_, by omega, by omega⟩)
            simp [insAt, v1, v2, v3, v4, v5]
            omega
          · refine .inr (.inr (.inl ⟨rfl, by omega, hov, ?_⟩))
            simp only [insAt]
            cases on <;> cases also <;> cases hao : act.on <;> simp [hao] at hov ⊢ <;> (repeat' split) <;> omega
        · rw [if_neg h3]; exact ⟨a, b, rfl, .inl ⟨by simp, rfl, rfl⟩⟩
end Go.Proofs.Ytlnpjdihdemgmaa
