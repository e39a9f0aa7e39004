/- ColumnFills, in plain Lean: how long a filled text is; what the statement's own functions make of bytes. -/
import Derived.Test.YtphdkcdkhklicaaGreatDoorCfD
import Derived.Test.YtphdkcdkhklicaaGreatDoorCfJ
namespace Go.Proofs.YtphdkcdkhklicaaGreatDoor
open Go.RowKit Go.Lib
set_option linter.unusedVariables false
set_option linter.unusedSimpArgs false
/-! ### how many words -/
theorem wordsA_cnt : ∀ (cs cur : List Nat), (wordsA cur cs).length ≤ cs.length + (if cur = [] then 0 else 1)
  | [], cur => by unfold wordsA; split <;> simp
  | c :: cs, cur => by
    have h1 := wordsA_cnt cs []
    have h2 := wordsA_cnt cs (cur ++ [c])
    rw [if_pos rfl] at h1
    rw [if_neg (by simp)] at h2
    unfold wordsA
    split
    · split
      · simp only [List.length_cons]; omega
      · rename_i hne; simp only [List.length_cons]; omega
    · simp only [List.length_cons]; split <;> omega
theorem words_lead (cs : List Nat) : (wordsC cs).length + (leadC cs).length ≤ cs.length := by
  have e : cs = leadC cs ++ cs.dropWhile isT := by unfold leadC; rw [List.takeWhile_append_dropWhile]
  have h1 : wordsC cs = wordsC (cs.dropWhile isT) := by
    conv => lhs; rw [e]
    exact wordsC_blanks _ (fun c hc => isT_B (leadC_T cs c hc)) _
  have h2 := wordsA_cnt (cs.dropWhile isT) []
  rw [if_pos rfl] at h2
  have h3 := congrArg List.length e
  rw [List.length_append] at h3
  rw [h1]
  have : (wordsC (cs.dropWhile isT)).length ≤ (cs.dropWhile isT).length := h2
  omega
theorem encL_ge : ∀ (cs : List Nat), (∀ c ∈ cs, isN c) → cs.length ≤ (encL cs).length
  | [], _ => by simp
  | c :: cs, h => by
    obtain ⟨u, r, e, _⟩ := enc_head (h c List.mem_cons_self)
    have := encL_ge cs (fun x hx => h x (List.mem_cons_of_mem _ hx))
    rw [encL_cons, List.length_append, e]; simp; omega
theorem encL_T : ∀ (cs : List Nat), (∀ c ∈ cs, isT c = true) → (encL cs).length = cs.length
  | [], _ => rfl
  | c :: cs, h => by
    have hc : c = 32 ∨ c = 9 := by have := h c List.mem_cons_self; unfold isT at this; simpa using this
    have e : (Utf8.encode (c : Int)).data.toList.length = 1 := by rcases hc with rfl | rfl <;> rfl
    rw [encL_cons, List.length_append, e, encL_T cs (fun x hx => h x (List.mem_cons_of_mem _ hx)), List.length_cons]; omega
/-- The bytes of the words together. -/
def sumB : List (List Nat) → Nat
  | [] => 0
  | w :: ws => (encL w).length + sumB ws
theorem wordsA_sumB : ∀ (cs cur : List Nat), sumB (wordsA cur cs) ≤ (encL cur).length + (encL cs).length
  | [], cur => by unfold wordsA; split <;> simp [sumB]
  | c :: cs, cur => by
    have e : (encL (c :: cs)).length = (encL [c]).length + (encL cs).length := by rw [show c :: cs = [c] ++ cs from rfl, encL_append, List.length_append]
    have h1 := wordsA_sumB cs []
    have h2 := wordsA_sumB cs (cur ++ [c])
    rw [encL_nil, List.length_nil] at h1
    rw [encL_append, List.length_append] at h2
    unfold wordsA
    split
    · split
      · omega
      · simp only [sumB]; omega
    · omega
theorem enc32 : (Utf8.encode ((32 : Nat) : Int)).data.toList.length = 1 := rfl
theorem enc10 : (Utf8.encode ((10 : Nat) : Int)).data.toList.length = 1 := rfl
theorem fillF_size (wid : Nat → Nat) (most tab : Nat) {lead : List Nat} (hl : ∀ c ∈ lead, isT c = true) : ∀ (ws : List (List Nat)) (col : Nat), (encL (fillF wid lead most tab col ws)).length ≤ sumB ws + ws.length * (lead.length + 1)
  | [], col => by simp [fillF, encL_nil]
  | w :: ws, col => by
    have el := encL_T lead hl
    unfold fillF
    have hm : (w :: ws).length * (lead.length + 1) = ws.length * (lead.length + 1) + (lead.length + 1) := by rw [List.length_cons, Nat.add_mul, Nat.one_mul]
    rw [hm]
    split
    · have ih := fillF_size wid most tab hl ws (widthC tab wid (col + 1) w)
      rw [show (32 :: w ++ fillF wid lead most tab (widthC tab wid (col + 1) w) ws) = 32 :: (w ++ fillF wid lead most tab (widthC tab wid (col + 1) w) ws) from rfl, encL_cons, encL_append, List.length_append, List.length_append, enc32]
      simp only [sumB]; omega
    · have ih := fillF_size wid most tab hl ws (widthC tab wid (widthC tab wid 0 lead) w)
      rw [show (10 :: lead ++ w ++ fillF wid lead most tab (widthC tab wid (widthC tab wid 0 lead) w) ws) = 10 :: (lead ++ (w ++ fillF wid lead most tab (widthC tab wid (widthC tab wid 0 lead) w) ws)) by simp, encL_cons, encL_append, encL_append, List.length_append, List.length_append, List.length_append, enc10]
      simp only [sumB]; omega
theorem fillC_size (wid : Nat → Nat) (most tab : Nat) (cs : List Nat) : (encL (fillC wid most tab cs)).length ≤ (encL cs).length + (wordsC cs).length * ((leadC cs).length + 1) + (if wordsC cs = [] then 1 else 0) := by
  have hs : sumB (wordsC cs) ≤ (encL cs).length := by have := wordsA_sumB cs []; rw [encL_nil, List.length_nil] at this; unfold wordsC; omega
  have hl := leadC_T cs
  have el := encL_T (leadC cs) hl
  have he : (encL (endNL cs)).length ≤ 1 := by unfold endNL; split <;> first | exact Nat.le_of_eq (by rw [encL_cons, encL_nil]; rfl) | simp [encL_nil]
  unfold fillC
  rw [encL_append, List.length_append]
  cases hw : wordsC cs with
  | nil => rw [if_pos rfl]; simp only [fillW, encL_nil, List.length_nil]; omega
  | cons w ws =>
    rw [if_neg (by simp)]
    rw [hw] at hs
    have h1 := fillF_size wid most tab hl ws (widthC tab wid (widthC tab wid 0 (leadC cs)) w)
    have hm : (w :: ws).length * ((leadC cs).length + 1) = ws.length * ((leadC cs).length + 1) + ((leadC cs).length + 1) := by rw [List.length_cons, Nat.add_mul, Nat.one_mul]
    rw [hm]
    show (encL (leadC cs ++ w ++ fillF wid (leadC cs) most tab (widthC tab wid (widthC tab wid 0 (leadC cs)) w) ws)).length + _ ≤ _
    rw [List.append_assoc, encL_append, encL_append, List.length_append, List.length_append]
    simp only [sumB] at hs
    omega
theorem sq4 (a b : Nat) : 4 * (a * b) ≤ (a + b) * (a + b) := by
  rcases Nat.le_total a b with h | h
  · obtain ⟨d, rfl⟩ := Nat.le.dest h
    have e1 : (a + (a + d)) * (a + (a + d)) = 4 * (a * (a + d)) + d * d := by
      simp only [Nat.mul_add, Nat.add_mul]; rw [Nat.mul_comm d a]; omega
    omega
  · obtain ⟨d, rfl⟩ := Nat.le.dest h
    have e1 : (b + d + b) * (b + d + b) = 4 * ((b + d) * b) + d * d := by
      simp only [Nat.mul_add, Nat.add_mul]; rw [Nat.mul_comm d b]; omega
    omega
def capN (n : Nat) : Nat := n * n + 7 * n
theorem capN_add (a b : Nat) : capN a + capN b ≤ capN (a + b) := by
  unfold capN
  have : (a + b) * (a + b) = a * a + b * b + 2 * (a * b) := by simp only [Nat.mul_add, Nat.add_mul]; rw [Nat.mul_comm b a]; omega
  omega
theorem capN_mono {a b : Nat} (h : a ≤ b) : capN a ≤ capN b := by
  obtain ⟨d, rfl⟩ := Nat.le.dest h
  have := capN_add a d; omega
theorem capN_ge (n : Nat) : 4 * n ≤ capN n := by unfold capN; have := Nat.zero_le (n * n); omega
theorem fl_size (wid : Nat → Nat) (most tab : Nat) (par : List Nat) (hp : ∀ c ∈ par, isN c) : 4 * (encL (flC wid most tab par)).length ≤ capN (encL par).length := by
  unfold flC
  split
  · rw [encL_nil]; simp
  · rename_i hne
    have h1 := fillC_size wid most tab par
    have h2 := words_lead par
    have h3 := encL_ge par hp
    have h0 : 1 ≤ par.length := by cases par with | nil => exact absurd rfl hne | cons => simp
    obtain ⟨N, hN⟩ : ∃ N, N = (encL par).length := ⟨_, rfl⟩
    obtain ⟨k, hk⟩ : ∃ k, k = (wordsC par).length := ⟨_, rfl⟩
    obtain ⟨L, hL⟩ : ∃ L, L = (leadC par).length := ⟨_, rfl⟩
    rw [← hN, ← hk, ← hL] at h1
    rw [← hk, ← hL] at h2
    rw [← hN] at h3 ⊢
    have h4 := sq4 k (L + 1)
    have h5 : (k + (L + 1)) * (k + (L + 1)) ≤ (N + 1) * (N + 1) := Nat.mul_le_mul (by omega) (by omega)
    have h6 : (N + 1) * (N + 1) = N * N + 2 * N + 1 := by simp only [Nat.mul_add, Nat.add_mul]; omega
    unfold capN
    by_cases hw : wordsC par = []
    · rw [if_pos hw] at h1
      have : k = 0 := by rw [hk, hw]; rfl
      subst this
      rw [Nat.zero_mul] at h1
      have := Nat.le_mul_self N
      omega
    · rw [if_neg hw] at h1
      omega
theorem proc_size (wid : Nat → Nat) (most tab : Nat) : ∀ (R : List (List Nat)) (par : List Nat), (∀ c ∈ par, isN c) → (∀ r ∈ R, ∀ c ∈ r, isN c) → 4 * (encL (procC wid most tab R par)).length ≤ capN (encL (par ++ R.flatten)).length
  | [], par, hp, _ => by
    rw [procC, List.flatten_nil, List.append_nil]
    exact fl_size wid most tab par hp
  | r :: R, par, hp, hR => by
    have hr := hR r List.mem_cons_self
    have ht : ∀ x ∈ R, ∀ c ∈ x, isN c := fun x hx => hR x (List.mem_cons_of_mem _ hx)
    unfold procC
    split
    · have h1 := fl_size wid most tab par hp
      have h2 := proc_size wid most tab R [] (by simp) ht
      rw [List.nil_append] at h2
      have h3 := capN_ge (encL r).length
      have h4 := capN_add (encL par).length (encL r).length
      have h5 := capN_add ((encL par).length + (encL r).length) (encL R.flatten).length
      rw [List.flatten_cons]
      simp only [encL_append, List.length_append]
      rw [← Nat.add_assoc]
      omega
    · have h := proc_size wid most tab R (par ++ r) (fun c hc => (List.mem_append.1 hc).elim (hp c) (hr c)) ht
      rw [List.append_assoc] at h
      rw [List.flatten_cons]; exact h
theorem rows_in {cs r : List Nat} (h : r ∈ rowsC cs) : ∀ c ∈ r, c ∈ cs := fun c hc => by
  rw [← rowsC_flat cs]; exact List.mem_flatten.2 ⟨r, h, hc⟩
/-- How long a filled text is, in bytes. -/
theorem fillT_size (wid : Nat → Nat) (most tab : Nat) (cs : List Nat) (hcs : ∀ c ∈ cs, isN c) : 4 * (encL (fillT wid most tab cs)).length ≤ capN (encL cs).length := by
  have := proc_size wid most tab (rowsC cs) [] (by simp) (fun r hr c hc => hcs c (rows_in hr c hc))
  rw [List.nil_append, rowsC_flat] at this
  exact this
/-! ### the characters of a filled text -/
theorem fillF_in (wid : Nat → Nat) (most tab : Nat) {lead : List Nat} : ∀ (ws : List (List Nat)) (col : Nat), ∀ c ∈ fillF wid lead most tab col ws, c = 32 ∨ c = 10 ∨ c ∈ lead ∨ ∃ w ∈ ws, c ∈ w
  | [], col, c, h => by simp [fillF] at h
  | w :: ws, col, c, h => by
    unfold fillF at h
    split at h
    · rw [List.cons_append, List.mem_cons, List.mem_append] at h
      rcases h with h | h | h
      · exact .inl h
      · exact .inr (.inr (.inr ⟨w, List.mem_cons_self, h⟩))
      · rcases fillF_in wid most tab ws _ c h with h | h | h | ⟨x, hx, h⟩
        · exact .inl h
        · exact .inr (.inl h)
        · exact .inr (.inr (.inl h))
        · exact .inr (.inr (.inr ⟨x, List.mem_cons_of_mem _ hx, h⟩))
    · rw [List.cons_append, List.cons_append, List.mem_cons, List.mem_append, List.mem_append] at h
      rcases h with h | (h | h) | h
      · exact .inr (.inl h)
      · exact .inr (.inr (.inl h))
      · exact .inr (.inr (.inr ⟨w, List.mem_cons_self, h⟩))
      · rcases fillF_in wid most tab ws _ c h with h | h | h | ⟨x, hx, h⟩
        · exact .inl h
        · exact .inr (.inl h)
        · exact .inr (.inr (.inl h))
        · exact .inr (.inr (.inr ⟨x, List.mem_cons_of_mem _ hx, h⟩))
theorem fillC_in (wid : Nat → Nat) (most tab : Nat) (cs : List Nat) : ∀ c ∈ fillC wid most tab cs, c = 32 ∨ c = 10 ∨ c ∈ cs := by
  intro c h
  unfold fillC at h
  rw [List.mem_append] at h
  rcases h with h | h
  · cases hw : wordsC cs with
    | nil => rw [hw] at h; simp [fillW] at h
    | cons w ws =>
      have hin : ∀ x ∈ w :: ws, ∀ c ∈ x, c ∈ cs := fun x hx => (wordsC_in cs x (by rw [hw]; exact hx)).2
      rw [hw] at h
      unfold fillW at h
      rw [List.mem_append, List.mem_append] at h
      rcases h with (h | h) | h
      · exact .inr (.inr (leadC_in cs c h))
      · exact .inr (.inr (hin w List.mem_cons_self c h))
      · rcases fillF_in wid most tab ws _ c h with h | h | h | ⟨x, hx, h⟩
        · exact .inl h
        · exact .inr (.inl h)
        · exact .inr (.inr (leadC_in cs c h))
        · exact .inr (.inr (hin x (List.mem_cons_of_mem _ hx) c h))
  · unfold endNL at h
    split at h
    · simp at h; exact .inr (.inl h)
    · simp at h
theorem proc_in (wid : Nat → Nat) (most tab : Nat) : ∀ (R : List (List Nat)) (par : List Nat), ∀ c ∈ procC wid most tab R par, c = 32 ∨ c = 10 ∨ c ∈ par ∨ ∃ r ∈ R, c ∈ r
  | [], par, c, h => by
    unfold procC flC at h
    split at h
    · simp at h
    · rcases fillC_in wid most tab par c h with h | h | h
      · exact .inl h
      · exact .inr (.inl h)
      · exact .inr (.inr (.inl h))
  | r :: R, par, c, h => by
    unfold procC at h
    split at h
    · rw [List.mem_append, List.mem_append] at h
      rcases h with (h | h) | h
      · unfold flC at h
        split at h
        · simp at h
        · rcases fillC_in wid most tab par c h with h | h | h
          · exact .inl h
          · exact .inr (.inl h)
          · exact .inr (.inr (.inl h))
      · exact .inr (.inr (.inr ⟨r, List.mem_cons_self, h⟩))
      · rcases proc_in wid most tab R [] c h with h | h | h | ⟨x, hx, h⟩
        · exact .inl h
        · exact .inr (.inl h)
        · simp at h
        · exact .inr (.inr (.inr ⟨x, List.mem_cons_of_mem _ hx, h⟩))
    · rcases proc_in wid most tab R (par ++ r) c h with h | h | h | ⟨x, hx, h⟩
      · exact .inl h
      · exact .inr (.inl h)
      · rw [List.mem_append] at h
        rcases h with h | h
        · exact .inr (.inr (.inl h))
        · exact .inr (.inr (.inr ⟨r, List.mem_cons_self, h⟩))
      · exact .inr (.inr (.inr ⟨x, List.mem_cons_of_mem _ hx, h⟩))
theorem fillT_isN (wid : Nat → Nat) (most tab : Nat) {cs : List Nat} (hcs : ∀ c ∈ cs, isN c) : ∀ c ∈ fillT wid most tab cs, isN c := by
  intro c h
  rcases proc_in wid most tab (rowsC cs) [] c h with h | h | h | ⟨r, hr, h⟩
  · subst h; unfold isN; omega
  · subst h; unfold isN; omega
  · simp at h
  · exact hcs c (rows_in hr c h)
end Go.Proofs.YtphdkcdkhklicaaGreatDoor
