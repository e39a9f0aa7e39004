/- ColumnFills, in plain Lean: bytes: the first row of a string; what the statement's own functions make of bytes. -/
import Derived.Test.YtphdkcdkhklicaaGreatDoorCfL
import Derived.Lib.Bytealg
namespace Go.Proofs.YtphdkcdkhklicaaGreatDoor
open Go.RowKit Go.Lib
set_option linter.unusedVariables false
set_option linter.unusedSimpArgs false
/-- The bytes of a character that is no blank. -/
theorem enc_nb {c : Nat} (h : isN c) (hb : isB c = false) : (∀ u ∈ (Utf8.encode (c : Int)).data.toList, u ≠ 32 ∧ u ≠ 9 ∧ u ≠ 10) ∧ (Utf8.encode (c : Int)).data.toList ≠ [] := by
  have hi := h
  unfold isN at hi
  have hc : c ≠ 32 ∧ c ≠ 9 ∧ c ≠ 10 := by unfold isB at hb; simp at hb; omega
  have key : ∀ n m : Nat, n < 256 → m < 256 → n ≠ m → UInt8.ofNat n ≠ UInt8.ofNat m := fun n m h1 h2 h3 e => h3 (by have := congrArg UInt8.toNat e; rw [un8 n h1, un8 m h2] at this; exact this)
  have all : ∀ n : Nat, n < 256 → n ≠ 32 → n ≠ 9 → n ≠ 10 → UInt8.ofNat n ≠ 32 ∧ UInt8.ofNat n ≠ 9 ∧ UInt8.ofNat n ≠ 10 := fun n h1 h2 h3 h4 => ⟨key n 32 h1 (by omega) h2, key n 9 h1 (by omega) h3, key n 10 h1 (by omega) h4⟩
  by_cases h1 : c < 128
  · rw [enc1 h h1]
    exact ⟨fun u hu => by simp at hu; subst hu; exact all c (by omega) hc.1 hc.2.1 hc.2.2, by simp⟩
  · by_cases h2 : c < 2048
    · rw [enc2 h h1 h2]
      refine ⟨fun u hu => ?_, by simp⟩
      simp only [List.mem_cons, List.not_mem_nil, or_false] at hu
      rcases hu with rfl | rfl
      · exact all _ (by omega) (by omega) (by omega) (by omega)
      · exact all _ (by omega) (by omega) (by omega) (by omega)
    · by_cases h3 : c < 65536
      · rw [enc3 h h1 h2 h3]
        refine ⟨fun u hu => ?_, by simp⟩
        simp only [List.mem_cons, List.not_mem_nil, or_false] at hu
        rcases hu with rfl | rfl | rfl
        · exact all _ (by omega) (by omega) (by omega) (by omega)
        · exact all _ (by omega) (by omega) (by omega) (by omega)
        · exact all _ (by omega) (by omega) (by omega) (by omega)
      · rw [enc4 h h1 h2 h3]
        refine ⟨fun u hu => ?_, by simp⟩
        simp only [List.mem_cons, List.not_mem_nil, or_false] at hu
        rcases hu with rfl | rfl | rfl | rfl
        · exact all _ (by omega) (by omega) (by omega) (by omega)
        · exact all _ (by omega) (by omega) (by omega) (by omega)
        · exact all _ (by omega) (by omega) (by omega) (by omega)
        · exact all _ (by omega) (by omega) (by omega) (by omega)
theorem enc_bl {c : Nat} (hb : isB c = true) : (c = 32 ∧ (Utf8.encode (c : Int)).data.toList = [32]) ∨ (c = 9 ∧ (Utf8.encode (c : Int)).data.toList = [9]) ∨ (c = 10 ∧ (Utf8.encode (c : Int)).data.toList = [10]) := by
  unfold isB at hb
  simp at hb
  rcases hb with (rfl | rfl) | rfl
  · exact .inl ⟨rfl, rfl⟩
  · exact .inr (.inl ⟨rfl, rfl⟩)
  · exact .inr (.inr ⟨rfl, rfl⟩)
theorem encL_ten : ∀ (a : List Nat), (∀ c ∈ a, isN c) → 10 ∉ a → (10 : UInt8) ∉ encL a
  | [], _, _ => by simp [encL_nil]
  | c :: a, hN, h => by
    rw [encL_cons, List.mem_append]
    rintro (hu | hu)
    · by_cases hb : isB c = true
      · rcases enc_bl hb with ⟨_, e⟩ | ⟨_, e⟩ | ⟨e, _⟩
        · rw [e] at hu; simp at hu
        · rw [e] at hu; simp at hu
        · exact h (by rw [e]; exact List.mem_cons_self)
      · exact ((enc_nb (hN c List.mem_cons_self) (by simpa using hb)).1 _ hu).2.2 rfl
    · exact encL_ten a (fun x hx => hN x (List.mem_cons_of_mem _ hx)) (fun e => h (List.mem_cons_of_mem _ e)) hu
theorem indexByte_not : ∀ (l : List UInt8), (10 : UInt8) ∉ l → indexByte l 10 = -1
  | [], _ => rfl
  | b :: l, h => by
    have hb : (b == 10) = false := by rw [beq_eq_false_iff_ne]; exact fun e => h (by rw [e]; exact List.mem_cons_self)
    rw [indexByte, hb, indexByte_not l (fun e => h (List.mem_cons_of_mem _ e))]; rfl
theorem indexByte_app : ∀ (l r : List UInt8), (10 : UInt8) ∉ l → indexByte (l ++ 10 :: r) 10 = (l.length : Int)
  | [], r, _ => rfl
  | b :: l, r, h => by
    have hb : (b == 10) = false := by rw [beq_eq_false_iff_ne]; exact fun e => h (by rw [e]; exact List.mem_cons_self)
    rw [List.cons_append, indexByte, hb, indexByte_app l r (fun e => h (List.mem_cons_of_mem _ e)), List.length_cons]
    have : ((l.length : Int) == -1) = false := by rw [beq_eq_false_iff_ne]; omega
    rw [this]; simp
theorem split_ten : ∀ (cs : List Nat), 10 ∈ cs → ∃ a b, cs = a ++ 10 :: b ∧ 10 ∉ a
  | [], h => by simp at h
  | c :: cs, h => by
    by_cases hc : c = 10
    · exact ⟨[], cs, by rw [hc]; rfl, by simp⟩
    · obtain ⟨a, b, e, ha⟩ := split_ten cs (by rw [List.mem_cons] at h; exact h.resolve_left (fun e => hc e.symm))
      exact ⟨c :: a, b, by rw [e]; rfl, by rw [List.mem_cons]; rintro (e2 | e2); exact hc e2.symm; exact ha e2⟩
/-- The first row of a string that is not empty. -/
theorem first_row {t : ByteArray} {rc : List Nat} (h : charsD t.data.toList = some rc) (hne : 0 < t.size) : ∃ (r rc' : List Nat) (n : Nat), rowsC rc = r :: rowsC rc' ∧ 1 ≤ n ∧ n ≤ t.size ∧
    ((indexByte t.data.toList 10 = -1 ∧ n = t.size) ∨ (indexByte t.data.toList 10 = (n : Int) - 1)) ∧ t.extract 0 n = encS r ∧ charsD (t.extract n t.size).data.toList = some rc' := by
  obtain ⟨he, hN⟩ := enc_chars _ _ _ (Nat.le_refl _) h
  have hsz : (encL rc).length = t.size := by rw [he, size_len]
  by_cases h10 : 10 ∈ rc
  · obtain ⟨a, b, rfl, ha⟩ := split_ten rc h10
    have hNa : ∀ c ∈ a, isN c := fun c hc => hN c (List.mem_append_left _ hc)
    have hNb : ∀ c ∈ b, isN c := fun c hc => hN c (List.mem_append_right _ (List.mem_cons_of_mem _ hc))
    have e1 : t.data.toList = encL a ++ 10 :: encL b := by rw [← he, encL_append, encL_cons]; rfl
    have e2 : encL (a ++ [10]) = encL a ++ [10] := by rw [encL_append, encL_cons, encL_nil]; rfl
    have hl : t.data.toList.length = (encL a).length + 1 + (encL b).length := by rw [e1, List.length_append, List.length_cons]; omega
    rw [size_len] at hl
    have e3 : t.data.toList = (encL a ++ [10]) ++ encL b := by rw [e1]; simp
    refine ⟨a ++ [10], b, (encL a).length + 1, ?_, by omega, by omega, .inr ?_, ?_, ?_⟩
    · rw [show a ++ 10 :: b = (a ++ [10]) ++ b by simp]
      exact rowsC_row ⟨a, ha, rfl⟩ b
    · rw [e1, indexByte_app _ _ (encL_ten a hNa ha)]; omega
    · refine bytes_ext ?_
      rw [extract_list, encS_list, e2, List.drop_zero, e3]
      exact List.take_left' (by simp)
    · rw [extract_list]
      have e4 : t.data.toList.drop ((encL a).length + 1) = encL b := by rw [e3]; exact List.drop_left' (by simp)
      rw [e4, List.take_of_length_le (by omega)]
      exact chars_enc b hNb
  · refine ⟨rc, [], t.size, ?_, by omega, Nat.le_refl _, .inl ⟨?_, rfl⟩, ?_, ?_⟩
    · have hne2 : rc ≠ [] := fun e => by rw [e, encL_nil] at hsz; simp at hsz; omega
      rw [rowsC_end hne2 h10]; simp [rowsC, rowsA]
    · rw [← he]; exact indexByte_not _ (encL_ten rc hN h10)
    · refine bytes_ext ?_
      rw [extract_list, encS_list, he, List.drop_zero]
      exact List.take_of_length_le (by rw [size_len]; omega)
    · rw [extract_list]
      simp [charsD_nil]
theorem no_row {t : ByteArray} {rc : List Nat} (h : charsD t.data.toList = some rc) (h0 : ¬ 0 < t.size) : rc = [] := by
  have : t.data.toList = [] := List.eq_nil_of_length_eq_zero (by rw [size_len]; omega)
  rw [this, charsD_nil] at h
  exact (Option.some.inj h).symm
/-! ### plain -/
def plB : Bool → List UInt8 → List UInt8
  | inn, [] => if inn then [32] else []
  | inn, b :: l => if b = 32 ∨ b = 9 ∨ b = 10 then (if inn then 32 :: plB false l else plB false l) else b :: plB true l
theorem plB_nb : ∀ (x : List UInt8), (∀ u ∈ x, u ≠ 32 ∧ u ≠ 9 ∧ u ≠ 10) → ∀ (l : List UInt8) (inn : Bool), x ≠ [] → plB inn (x ++ l) = x ++ plB true l
  | [], _, l, inn, h0 => absurd rfl h0
  | b :: x, h, l, inn, _ => by
    have hb := h b List.mem_cons_self
    rw [List.cons_append, plB, if_neg (by rintro (e | e | e); exact hb.1 e; exact hb.2.1 e; exact hb.2.2 e), List.cons_append]
    congr 1
    by_cases hx : x = []
    · subst hx; rfl
    · exact plB_nb x (fun u hu => h u (List.mem_cons_of_mem _ hu)) l true hx
theorem plB_words : ∀ (cs : List Nat), (∀ c ∈ cs, isN c) → ∀ cur, encL cur ++ plB (!cur.isEmpty) (encL cs) = (wordsA cur cs).flatMap fun w => encL w ++ [32]
  | [], _, cur => by
    cases cur with
    | nil => rfl
    | cons c cur => simp [encL_nil, plB, wordsA]
  | c :: cs, h, cur => by
    have ht : ∀ x ∈ cs, isN x := fun x hx => h x (List.mem_cons_of_mem _ hx)
    by_cases hb : isB c = true
    · have hbl : ∀ inn, plB inn (encL (c :: cs)) = if inn then 32 :: plB false (encL cs) else plB false (encL cs) := fun inn => by
        rw [encL_cons]
        rcases enc_bl hb with ⟨_, e⟩ | ⟨_, e⟩ | ⟨_, e⟩ <;> rw [e] <;> simp [plB]
      have ih := plB_words cs ht []
      simp only [List.isEmpty_nil, Bool.not_true, encL_nil, List.nil_append] at ih
      cases cur with
      | nil => rw [hbl, if_neg (by simp), wordsA, if_pos hb, if_pos rfl, ← ih]; simp [encL_nil]
      | cons x cur => rw [hbl, if_pos (by simp), wordsA, if_pos hb, if_neg (by simp), List.flatMap_cons, ← ih]; simp
    · have hb' : isB c = false := by simpa using hb
      obtain ⟨h1, h2⟩ := enc_nb (h c List.mem_cons_self) hb'
      have ih := plB_words cs ht (cur ++ [c])
      rw [wordsA, if_neg hb, ← ih, encL_cons, plB_nb _ h1 _ _ h2, encL_append]
      have e : (!(cur ++ [c]).isEmpty) = true := by simp
      rw [e, encL_cons, encL_nil]; simp
theorem plB_plain {cs : List Nat} (h : ∀ c ∈ cs, isN c) : plB false (encL cs) = (wordsC cs).flatMap fun w => encL w ++ [32] := by
  have := plB_words cs h []
  unfold wordsC
  simpa [encL_nil] using this
theorem plB_len : ∀ (l : List UInt8) (inn : Bool), (plB inn l).length ≤ l.length + 1
  | [], inn => by unfold plB; split <;> simp
  | b :: l, inn => by
    have h1 := plB_len l false
    have h2 := plB_len l true
    unfold plB
    split
    · split
      · simp only [List.length_cons]; omega
      · simp only [List.length_cons]; omega
    · simp only [List.length_cons]; omega
/-! ### blanks -/
def bkB : Bool → List UInt8 → Nat
  | _, [] => 0
  | wds, b :: l => if b = 10 then (if wds then bkB false l else 1 + bkB false l) else if b = 32 ∨ b = 9 then bkB wds l else bkB true l
theorem bkB_nb : ∀ (x : List UInt8), (∀ u ∈ x, u ≠ 32 ∧ u ≠ 9 ∧ u ≠ 10) → ∀ (l : List UInt8) (wds : Bool), x ≠ [] → bkB wds (x ++ l) = bkB true l
  | [], _, l, wds, h0 => absurd rfl h0
  | b :: x, h, l, wds, _ => by
    have hb := h b List.mem_cons_self
    rw [List.cons_append, bkB, if_neg hb.2.2, if_neg (by rintro (e | e); exact hb.1 e; exact hb.2.1 e)]
    by_cases hx : x = []
    · subst hx; rfl
    · exact bkB_nb x (fun u hu => h u (List.mem_cons_of_mem _ hu)) l true hx
theorem blankN_cons (r : List Nat) (L : List (List Nat)) : blankN (r :: L) = (if wordsC r = [] ∧ r.getLast? = some 10 then 1 else 0) + blankN L := by
  unfold blankN
  rw [List.filter_cons]
  by_cases h : wordsC r = [] ∧ r.getLast? = some 10
  · rw [if_pos h, if_pos (by simp [h.1, h.2])]; simp; omega
  · rw [if_neg h, if_neg (by simp only [Bool.and_eq_true, List.isEmpty_iff, beq_iff_eq]; exact h)]; simp
theorem words_snoc_none (cur : List Nat) (c : Nat) : wordsC (cur ++ [c]) = [] ↔ wordsC cur = [] ∧ isB c = true := by
  rw [words_none, words_none]
  constructor
  · intro h; exact ⟨fun x hx => h x (List.mem_append_left _ hx), h c (by simp)⟩
  · rintro ⟨h1, h2⟩ x hx
    rw [List.mem_append, List.mem_singleton] at hx
    rcases hx with hx | rfl
    · exact h1 x hx
    · exact h2
theorem bkB_rows : ∀ (cs : List Nat), (∀ c ∈ cs, isN c) → ∀ cur, 10 ∉ cur → bkB (!(wordsC cur).isEmpty) (encL cs) = blankN (rowsA cur cs)
  | [], _, cur, h10 => by
    rw [encL_nil, bkB, rowsA]
    split
    · rfl
    · rename_i hne
      rw [blankN_cons, if_neg]
      · rfl
      · rintro ⟨_, h2⟩
        exact h10 (List.mem_of_getLast? h2)
  | c :: cs, h, cur, h10 => by
    have ht : ∀ x ∈ cs, isN x := fun x hx => h x (List.mem_cons_of_mem _ hx)
    by_cases hc : c = 10
    · subst hc
      have ih := bkB_rows cs ht [] (by simp)
      have e0 : (!(wordsC ([] : List Nat)).isEmpty) = false := rfl
      rw [e0] at ih
      rw [rowsA, if_pos rfl, blankN_cons, words_snoc, encL_cons]
      have e : (Utf8.encode ((10 : Nat) : Int)).data.toList = [10] := rfl
      rw [e, List.cons_append, List.nil_append, bkB, if_pos rfl, ih]
      have el : (cur ++ [10]).getLast? = some 10 := by simp
      by_cases hw : wordsC cur = []
      · simp [hw]
      · have hne : (wordsC cur).isEmpty = false := by cases hx : wordsC cur with | nil => exact absurd hx hw | cons => rfl
        rw [hne]; simp [hw]
    · have ih := bkB_rows cs ht (cur ++ [c]) (by rw [List.mem_append, List.mem_singleton]; rintro (e | e); exact h10 e; exact hc e.symm)
      rw [rowsA, if_neg hc, ← ih]
      by_cases hb : isB c = true
      · have e2 : (wordsC (cur ++ [c])).isEmpty = (wordsC cur).isEmpty := by
          rw [Bool.eq_iff_iff, List.isEmpty_iff, List.isEmpty_iff, words_snoc_none]
          exact ⟨fun q => q.1, fun q => ⟨q, hb⟩⟩
        rw [e2, encL_cons]
        rcases enc_bl hb with ⟨_, e⟩ | ⟨_, e⟩ | ⟨e, _⟩
        · rw [e]; simp [bkB]
        · rw [e]; simp [bkB]
        · exact absurd e hc
      · have hb' : isB c = false := by simpa using hb
        obtain ⟨h1, h2⟩ := enc_nb (h c List.mem_cons_self) hb'
        have e2 : (wordsC (cur ++ [c])).isEmpty = false := by
          cases hx : wordsC (cur ++ [c]) with
          | nil => exact absurd ((words_snoc_none cur c).1 hx).2 hb
          | cons => rfl
        rw [e2, encL_cons, bkB_nb _ h1 _ _ h2]; rfl
theorem bkB_blanks {cs : List Nat} (h : ∀ c ∈ cs, isN c) : bkB false (encL cs) = blankN (rowsC cs) := bkB_rows cs h [] (by simp)
theorem bkB_le : ∀ (l : List UInt8) (wds : Bool), bkB wds l ≤ l.length
  | [], _ => by simp [bkB]
  | b :: l, wds => by
    have h1 := bkB_le l false
    have h2 := bkB_le l true
    have h3 := bkB_le l wds
    unfold bkB
    (repeat' split) <;> simp only [List.length_cons] <;> omega
/-! ### one -/
def onB : Bool → List UInt8 → Nat
  | _, [] => 0
  | inn, b :: l => if b = 32 ∨ b = 9 then onB false l else (if inn then onB true l else 1 + onB true l)
theorem onB_nb : ∀ (x : List UInt8), (∀ u ∈ x, u ≠ 32 ∧ u ≠ 9 ∧ u ≠ 10) → ∀ (l : List UInt8) (inn : Bool), x ≠ [] → onB inn (x ++ l) = (if inn then 0 else 1) + onB true l
  | [], _, l, inn, h0 => absurd rfl h0
  | b :: x, h, l, inn, _ => by
    have hb := h b List.mem_cons_self
    rw [List.cons_append, onB, if_neg (by rintro (e | e); exact hb.1 e; exact hb.2.1 e)]
    have : onB true (x ++ l) = onB true l := by
      by_cases hx : x = []
      · subst hx; rfl
      · rw [onB_nb x (fun u hu => h u (List.mem_cons_of_mem _ hu)) l true hx]; simp
    rw [this]
    cases inn <;> simp
theorem onB_words : ∀ (cs : List Nat), (∀ c ∈ cs, isN c) → 10 ∉ cs → ∀ cur, (if cur = [] then 0 else 1) + onB (!cur.isEmpty) (encL cs) = (wordsA cur cs).length
  | [], _, _, cur => by
    cases cur with
    | nil => rfl
    | cons c cur => simp [encL_nil, onB, wordsA]
  | c :: cs, h, h10, cur => by
    have ht : ∀ x ∈ cs, isN x := fun x hx => h x (List.mem_cons_of_mem _ hx)
    have h10' : 10 ∉ cs := fun e => h10 (List.mem_cons_of_mem _ e)
    have hc : c ≠ 10 := fun e => h10 (by rw [e]; exact List.mem_cons_self)
    by_cases hb : isB c = true
    · have hbl : ∀ inn, onB inn (encL (c :: cs)) = onB false (encL cs) := fun inn => by
        rw [encL_cons]
        rcases enc_bl hb with ⟨_, e⟩ | ⟨_, e⟩ | ⟨e, _⟩
        · rw [e]; simp [onB]
        · rw [e]; simp [onB]
        · exact absurd e hc
      have ih := onB_words cs ht h10' []
      simp only [List.isEmpty_nil, Bool.not_true, if_true] at ih
      rw [hbl, wordsA, if_pos hb]
      cases cur with
      | nil => rw [if_pos rfl, if_pos rfl, ← ih]
      | cons x cur => rw [if_neg (by simp), if_neg (by simp), List.length_cons, ← ih]; omega
    · have hb' : isB c = false := by simpa using hb
      obtain ⟨h1, h2⟩ := enc_nb (h c List.mem_cons_self) hb'
      have ih := onB_words cs ht h10' (cur ++ [c])
      have e : (!(cur ++ [c]).isEmpty) = true := by simp
      rw [if_neg (by simp), e] at ih
      rw [wordsA, if_neg hb, ← ih, encL_cons, onB_nb _ h1 _ _ h2]
      cases cur with
      | nil => simp
      | cons x cur => simp
theorem onB_one {cs : List Nat} (h : ∀ c ∈ cs, isN c) (h10 : 10 ∉ cs) : onB false (encL cs) = (wordsC cs).length := by
  have := onB_words cs h h10 []
  unfold wordsC
  simpa using this
theorem onB_le : ∀ (l : List UInt8) (inn : Bool), onB inn l ≤ l.length
  | [], _ => by simp [onB]
  | b :: l, inn => by
    have h1 := onB_le l false
    have h2 := onB_le l true
    unfold onB
    (repeat' split) <;> simp only [List.length_cons] <;> omega
end Go.Proofs.YtphdkcdkhklicaaGreatDoor
