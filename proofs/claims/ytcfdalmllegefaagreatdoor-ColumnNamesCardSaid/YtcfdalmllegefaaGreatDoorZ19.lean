import Derived.Test.YtcfdalmllegefaaGreatDoorZ18
import Derived.Lib.Bytealg
import Derived.Test.YtcfdalmllegefaaGreatDoorZ10
import Derived.Test.YtcfdalmllegefaaGreatDoorZ04
import Derived.Test.YtcfdalmllegefaaGreatDoorLayF
import Derived.Test.YtcfdalmllegefaaGreatDoorZ01
import Derived.Shelf.Strings.FieldsFuncAny
import Derived.WalkMore
import Derived.RangeFuncNested
import Derived.RangeFuncBound
import Derived.RangeFuncCalls
import Derived.RangeFuncLeaves
import Derived.RangeFuncFrom
import Derived.Shelf.Abstract
import Derived.Shelf.RegionOpen
import Derived.WalkKit
import Derived.OwnWalkIn
import Derived.TacticsInMore
import Derived.LoopNIn
import Derived.LoopIn
import Derived.Lib.Hide
import Derived.Test.YtcfdalmllegefaaGreatDoorZ00
import Derived.Test.YtcfdalmllegefaaGreatDoorZ08
/- ColumnFills, in plain Lean: bytes: the first row of a string; what the statement's own functions make of bytes. -/
namespace Go.Proofs.YtcfdalmllegefaaGreatDoor
open Go.RowKit Go.Lib
set_option linter.unusedVariables false
set_option linter.unusedSimpArgs false
/-- The bytes of a character that is no blank. -/
theorem enc_nb {c : Nat} (h : isN c) (hb : isB c = false) : (∀ u ∈ (Utf8.encode (c : Int)).data.toList, u ≠ 32 ∧ u ≠ 9 ∧ u ≠ 10) ∧ (Utf8.encode (c : Int)).data.toList ≠ [] := by
  have hi := h
  unfold isN at hi
  have hc : c ≠ 32 ∧ c ≠ 9 ∧ c ≠ 10 := by unfold isB at hb; simp at hb; omega
  have key : ∀ n m : Nat, n < 256 → m < 256 → n ≠ m → UInt8.ofNat n ≠ UInt8.ofNat m := fun n m h1 h2 h3 e => h3 (by have := congrArg UInt8.toNat e; rw [un8 n h1, un8 m h2] at this; exact this)
  have all : ∀ n : Nat, n < 256 → n ≠ 32 → n ≠ 9 → n ≠ 10 → UInt8.ofNat n ≠ 32 ∧ UInt8.ofNat n ≠ 9 ∧ UInt8.ofNat n ≠ 10 := fun n h1 h2 h3 h4 => ⟨key n 32 h1 (by omega) h2, key n 9 h1 (by omega) h3, key n 10 h1 (by omega) h4⟩
  by_cases h1 : c < 128
  · rw [enc1 h h1]
    exact ⟨fun u hu => by simp at hu; subst hu; exact all c (by omega) hc.1 hc.2.1 hc.2.2, by simp⟩
  · by_cases h2 : c < 2048
    · rw [enc2 h h1 h2]
      refine ⟨fun u hu => ?_, by simp⟩
      simp only [List.mem_cons, List.not_mem_nil, or_false] at hu
      rcases hu with rfl | rfl
      · exact all _ (by omega) (by omega) (by omega) (by omega)
      · exact all _ (by omega) (by omega) (by omega) (by omega)
    · by_cases h3 : c < 65536
      · rw [enc3 h h1 h2 h3]
        refine ⟨fun u hu => ?_, by simp⟩
        simp only [List.mem_cons, List.not_mem_nil, or_false] at hu
        rcases hu with rfl | rfl | rfl
        · exact all _ (by omega) (by omega) (by omega) (by omega)
        · exact all _ (by omega) (by omega) (by omega) (by omega)
        · exact all _ (by omega) (by omega) (by omega) (by omega)
      · rw [enc4 h h1 h2 h3]
        refine ⟨fun u hu => ?_, by simp⟩
        simp only [List.mem_cons, List.not_mem_nil, or_false] at hu
        rcases hu with rfl | rfl | rfl | rfl
        · exact all _ (by omega) (by omega) (by omega) (by omega)
        · exact all _ (by omega) (by omega) (by omega) (by omega)
        · exact all _ (by omega) (by omega) (by omega) (by omega)
        · exact all _ (by omega) (by omega) (by omega) (by omega)
theorem enc_bl {c : Nat} (hb : isB c = true) : (c = 32 ∧ (Utf8.encode (c : Int)).data.toList = [32]) ∨ (c = 9 ∧ (Utf8.encode (c : Int)).data.toList = [9]) ∨ (c = 10 ∧ (Utf8.encode (c : Int)).data.toList = [10]) := by
  unfold isB at hb
  simp at hb
  rcases hb with (rfl | rfl) | rfl
  · exact .inl ⟨rfl, rfl⟩
  · exact .inr (.inl ⟨rfl, rfl⟩)
  · exact .inr (.inr ⟨rfl, rfl⟩)
theorem encL_ten : ∀ (a : List Nat), (∀ c ∈ a, isN c) → 10 ∉ a → (10 : UInt8) ∉ encL a
  | [], _, _ => by simp [encL_nil]
  | c :: a, hN, h => by
    rw [encL_cons, List.mem_append]
    rintro (hu | hu)
    · by_cases hb : isB c = true
      · rcases enc_bl hb with ⟨_, e⟩ | ⟨_, e⟩ | ⟨e, _⟩
        · rw [e] at hu; simp at hu
        · rw [e] at hu; simp at hu
        · exact h (by rw [e]; exact List.mem_cons_self)
      · exact ((enc_nb (hN c List.mem_cons_self) (by simpa using hb)).1 _ hu).2.2 rfl
    · exact encL_ten a (fun x hx => hN x (List.mem_cons_of_mem _ hx)) (fun e => h (List.mem_cons_of_mem _ e)) hu
theorem indexByte_not : ∀ (l : List UInt8), (10 : UInt8) ∉ l → indexByte l 10 = -1
  | [], _ => rfl
  | b :: l, h => by
    have hb : (b == 10) = false := by rw [beq_eq_false_iff_ne]; exact fun e => h (by rw [e]; exact List.mem_cons_self)
    rw [indexByte, hb, indexByte_not l (fun e => h (List.mem_cons_of_mem _ e))]; rfl
theorem indexByte_app : ∀ (l r : List UInt8), (10 : UInt8) ∉ l → indexByte (l ++ 10 :: r) 10 = (l.length : Int)
  | [], r, _ => rfl
  | b :: l, r, h => by
    have hb : (b == 10) = false := by rw [beq_eq_false_iff_ne]; exact fun e => h (by rw [e]; exact List.mem_cons_self)
    rw [List.cons_append, indexByte, hb, indexByte_app l r (fun e => h (List.mem_cons_of_mem _ e)), List.length_cons]
    have : ((l.length : Int) == -1) = false := by rw [beq_eq_false_iff_ne]; omega
    rw [this]; simp
theorem split_ten : ∀ (cs : List Nat), 10 ∈ cs → ∃ a b, cs = a ++ 10 :: b ∧ 10 ∉ a
  | [], h => by simp at h
  | c :: cs, h => by
    by_cases hc : c = 10
    · exact ⟨[], cs, by rw [hc]; rfl, by simp⟩
    · obtain ⟨a, b, e, ha⟩ := split_ten cs (by rw [List.mem_cons] at h; exact h.resolve_left (fun e => hc e.symm))
      exact ⟨c :: a, b, by rw [e]; rfl, by rw [List.mem_cons]; rintro (e2 | e2); exact hc e2.symm; exact ha e2⟩
/-- The first row of a string that is not empty. -/
theorem first_row {t : ByteArray} {rc : List Nat} (h : charsD t.data.toList = some rc) (hne : 0 < t.size) : ∃ (r rc' : List Nat) (n : Nat), rowsC rc = r :: rowsC rc' ∧ 1 ≤ n ∧ n ≤ t.size ∧
    ((indexByte t.data.toList 10 = -1 ∧ n = t.size) ∨ (indexByte t.data.toList 10 = (n : Int) - 1)) ∧ t.extract 0 n = encS r ∧ charsD (t.extract n t.size).data.toList = some rc' := by
  obtain ⟨he, hN⟩ := enc_chars _ _ _ (Nat.le_refl _) h
  have hsz : (encL rc).length = t.size := by rw [he, size_len]
  by_cases h10 : 10 ∈ rc
  · obtain ⟨a, b, rfl, ha⟩ := split_ten rc h10
    have hNa : ∀ c ∈ a, isN c := fun c hc => hN c (List.mem_append_left _ hc)
    have hNb : ∀ c ∈ b, isN c := fun c hc => hN c (List.mem_append_right _ (List.mem_cons_of_mem _ hc))
    have e1 : t.data.toList = encL a ++ 10 :: encL b := by rw [← he, encL_append, encL_cons]; rfl
    have e2 : encL (a ++ [10]) = encL a ++ [10] := by rw [encL_append, encL_cons, encL_nil]; rfl
    have hl : t.data.toList.length = (encL a).length + 1 + (encL b).length := by rw [e1, List.length_append, List.length_cons]; omega
    rw [size_len] at hl
    have e3 : t.data.toList = (encL a ++ [10]) ++ encL b := by rw [e1]; simp
    refine ⟨a ++ [10], b, (encL a).length + 1, ?_, by omega, by omega, .inr ?_, ?_, ?_⟩
    · rw [show a ++ 10 :: b = (a ++ [10]) ++ b by simp]
      exact rowsC_row ⟨a, ha, rfl⟩ b
    · rw [e1, indexByte_app _ _ (encL_ten a hNa ha)]; omega
    · refine bytes_ext ?_
      rw [extract_list, encS_list, e2, List.drop_zero, e3]
      exact List.take_left' (by simp)
    · rw [extract_list]
      have e4 : t.data.toList.drop ((encL a).length + 1) = encL b := by rw [e3]; exact List.drop_left' (by simp)
      rw [e4, List.take_of_length_le (by omega)]
      exact chars_enc b hNb
  · refine ⟨rc, [], t.size, ?_, by omega, Nat.le_refl _, .inl ⟨?_, rfl⟩, ?_, ?_⟩
    · have hne2 : rc ≠ [] := fun e => by rw [e, encL_nil] at hsz; simp at hsz; omega
      rw [rowsC_end hne2 h10]; simp [rowsC, rowsA]
    · rw [← he]; exact indexByte_not _ (encL_ten rc hN h10)
    · refine bytes_ext ?_
      rw [extract_list, encS_list, he, List.drop_zero]
      exact List.take_of_length_le (by rw [size_len]; omega)
    · rw [extract_list]
      simp [charsD_nil]
theorem no_row {t : ByteArray} {rc : List Nat} (h : charsD t.data.toList = some rc) (h0 : ¬ 0 < t.size) : rc = [] := by
  have : t.data.toList = [] := List.eq_nil_of_length_eq_zero (by rw [size_len]; omega)
  rw [this, charsD_nil] at h
  exact (Option.some.inj h).symm
/-! ### plain -/
def plB : Bool → List UInt8 → List UInt8
  | inn, [] => if inn then [32] else []
  | inn, b :: l => if b = 32 ∨ b = 9 ∨ b = 10 then (if inn then 32 :: plB false l else plB false l) else b :: plB true l
theorem plB_nb : ∀ (x : List UInt8), (∀ u ∈ x, u ≠ 32 ∧ u ≠ 9 ∧ u ≠ 10) → ∀ (l : List UInt8) (inn : Bool), x ≠ [] → plB inn (x ++ l) = x ++ plB true l
  | [], _, l, inn, h0 => absurd rfl h0
  | b :: x, h, l, inn, _ => by
    have hb := h b List.mem_cons_self
    rw [List.cons_append, plB, if_neg (by rintro (e | e | e); exact hb.1 e; exact hb.2.1 e; exact hb.2.2 e), List.cons_append]
    congr 1
    by_cases hx : x = []
    · subst hx; rfl
    · exact plB_nb x (fun u hu => h u (List.mem_cons_of_mem _ hu)) l true hx
theorem plB_words : ∀ (cs : List Nat), (∀ c ∈ cs, isN c) → ∀ cur, encL cur ++ plB (!cur.isEmpty) (encL cs) = (wordsA cur cs).flatMap fun w => encL w ++ [32]
  | [], _, cur => by
    cases cur with
    | nil => rfl
    | cons c cur => simp [encL_nil, plB, wordsA]
  | c :: cs, h, cur => by
    have ht : ∀ x ∈ cs, isN x := fun x hx => h x (List.mem_cons_of_mem _ hx)
    by_cases hb : isB c = true
    · have hbl : ∀ inn, plB inn (encL (c :: cs)) = if inn then 32 :: plB false (encL cs) else plB false (encL cs) := fun inn => by
        rw [encL_cons]
        rcases enc_bl hb with ⟨_, e⟩ | ⟨_, e⟩ | ⟨_, e⟩ <;> rw [e] <;> simp [plB]
      have ih := plB_words cs ht []
      simp only [List.isEmpty_nil, Bool.not_true, encL_nil, List.nil_append] at ih
      cases cur with
      | nil => rw [hbl, if_neg (by simp), wordsA, if_pos hb, if_pos rfl, ← ih]; simp [encL_nil]
      | cons x cur => rw [hbl, if_pos (by simp), wordsA, if_pos hb, if_neg (by simp), List.flatMap_cons, ← ih]; simp
    · have hb' : isB c = false := by simpa using hb
      obtain ⟨h1, h2⟩ := enc_nb (h c List.mem_cons_self) hb'
      have ih := plB_words cs ht (cur ++ [c])
      rw [wordsA, if_neg hb, ← ih, encL_cons, plB_nb _ h1 _ _ h2, encL_append]
      have e : (!(cur ++ [c]).isEmpty) = true := by simp
      rw [e, encL_cons, encL_nil]; simp
theorem plB_plain {cs : List Nat} (h : ∀ c ∈ cs, isN c) : plB false (encL cs) = (wordsC cs).flatMap fun w => encL w ++ [32] := by
  have := plB_words cs h []
  unfold wordsC
  simpa [encL_nil] using this
theorem plB_len : ∀ (l : List UInt8) (inn : Bool), (plB inn l).length ≤ l.length + 1
  | [], inn => by unfold plB; split <;> simp
  | b :: l, inn => by
    have h1 := plB_len l false
    have h2 := plB_len l true
    unfold plB
    split
    · split
      · simp only [List.length_cons]; omega
      · simp only [List.length_cons]; omega
    · simp only [List.length_cons]; omega
/-! ### blanks -/
def bkB : Bool → List UInt8 → Nat
  | _, [] => 0
  | wds, b :: l => if b = 10 then (if wds then bkB false l else 1 + bkB false l) else if b = 32 ∨ b = 9 then bkB wds l else bkB true l
theorem bkB_nb : ∀ (x : List UInt8), (∀ u ∈ x, u ≠ 32 ∧ u ≠ 9 ∧ u ≠ 10) → ∀ (l : List UInt8) (wds : Bool), x ≠ [] → bkB wds (x ++ l) = bkB true l
  | [], _, l, wds, h0 => absurd rfl h0
  | b :: x, h, l, wds, _ => by
    have hb := h b List.mem_cons_self
    rw [List.cons_append, bkB, if_neg hb.2.2, if_neg (by rintro (e | e); exact hb.1 e; exact hb.2.1 e)]
    by_cases hx : x = []
    · subst hx; rfl
    · exact bkB_nb x (fun u hu => h u (List.mem_cons_of_mem _ hu)) l true hx
theorem blankN_cons (r : List Nat) (L : List (List Nat)) : blankN (r :: L) = (if wordsC r = [] ∧ r.getLast? = some 10 then 1 else 0) + blankN L := by
  unfold blankN
  rw [List.filter_cons]
  by_cases h : wordsC r = [] ∧ r.getLast? = some 10
  · rw [if_pos h, if_pos (by simp [h.1, h.2])]; simp; omega
  · rw [if_neg h, if_neg (by simp only [Bool.and_eq_true, List.isEmpty_iff, beq_iff_eq]; exact h)]; simp
theorem words_snoc_none (cur : List Nat) (c : Nat) : wordsC (cur ++ [c]) = [] ↔ wordsC cur = [] ∧ isB c = true := by
  rw [words_none, words_none]
  constructor
  · intro h; exact ⟨fun x hx => h x (List.mem_append_left _ hx), h c (by simp)⟩
  · rintro ⟨h1, h2⟩ x hx
    rw [List.mem_append, List.mem_singleton] at hx
    rcases hx with hx | rfl
    · exact h1 x hx
    · exact h2
theorem bkB_rows : ∀ (cs : List Nat), (∀ c ∈ cs, isN c) → ∀ cur, 10 ∉ cur → bkB (!(wordsC cur).isEmpty) (encL cs) = blankN (rowsA cur cs)
  | [], _, cur, h10 => by
    rw [encL_nil, bkB, rowsA]
    split
    · rfl
    · rename_i hne
      rw [blankN_cons, if_neg]
      · rfl
      · rintro ⟨_, h2⟩
        exact h10 (List.mem_of_getLast? h2)
  | c :: cs, h, cur, h10 => by
    have ht : ∀ x ∈ cs, isN x := fun x hx => h x (List.mem_cons_of_mem _ hx)
    by_cases hc : c = 10
    · subst hc
      have ih := bkB_rows cs ht [] (by simp)
      have e0 : (!(wordsC ([] : List Nat)).isEmpty) = false := rfl
      rw [e0] at ih
      rw [rowsA, if_pos rfl, blankN_cons, words_snoc, encL_cons]
      have e : (Utf8.encode ((10 : Nat) : Int)).data.toList = [10] := rfl
      rw [e, List.cons_append, List.nil_append, bkB, if_pos rfl, ih]
      have el : (cur ++ [10]).getLast? = some 10 := by simp
      by_cases hw : wordsC cur = []
      · simp [hw]
      · have hne : (wordsC cur).isEmpty = false := by cases hx : wordsC cur with | nil => exact absurd hx hw | cons => rfl
        rw [hne]; simp [hw]
    · have ih := bkB_rows cs ht (cur ++ [c]) (by rw [List.mem_append, List.mem_singleton]; rintro (e | e); exact h10 e; exact hc e.symm)
      rw [rowsA, if_neg hc, ← ih]
      by_cases hb : isB c = true
      · have e2 : (wordsC (cur ++ [c])).isEmpty = (wordsC cur).isEmpty := by
          rw [Bool.eq_iff_iff, List.isEmpty_iff, List.isEmpty_iff, words_snoc_none]
          exact ⟨fun q => q.1, fun q => ⟨q, hb⟩⟩
        rw [e2, encL_cons]
        rcases enc_bl hb with ⟨_, e⟩ | ⟨_, e⟩ | ⟨e, _⟩
        · rw [e]; simp [bkB]
        · rw [e]; simp [bkB]
        · exact absurd e hc
      · have hb' : isB c = false := by simpa using hb
        obtain ⟨h1, h2⟩ := enc_nb (h c List.mem_cons_self) hb'
        have e2 : (wordsC (cur ++ [c])).isEmpty = false := by
          cases hx : wordsC (cur ++ [c]) with
          | nil => exact absurd ((words_snoc_none cur c).1 hx).2 hb
          | cons => rfl
        rw [e2, encL_cons, bkB_nb _ h1 _ _ h2]; rfl
theorem bkB_blanks {cs : List Nat} (h : ∀ c ∈ cs, isN c) : bkB false (encL cs) = blankN (rowsC cs) := bkB_rows cs h [] (by simp)
theorem bkB_le : ∀ (l : List UInt8) (wds : Bool), bkB wds l ≤ l.length
  | [], _ => by simp [bkB]
  | b :: l, wds => by
    have h1 := bkB_le l false
    have h2 := bkB_le l true
    have h3 := bkB_le l wds
    unfold bkB
    (repeat' split) <;> simp only [List.length_cons] <;> omega
/-! ### one -/
def onB : Bool → List UInt8 → Nat
  | _, [] => 0
  | inn, b :: l => if b = 32 ∨ b = 9 then onB false l else (if inn then onB true l else 1 + onB true l)
theorem onB_nb : ∀ (x : List UInt8), (∀ u ∈ x, u ≠ 32 ∧ u ≠ 9 ∧ u ≠ 10) → ∀ (l : List UInt8) (inn : Bool), x ≠ [] → onB inn (x ++ l) = (if inn then 0 else 1) + onB true l
  | [], _, l, inn, h0 => absurd rfl h0
  | b :: x, h, l, inn, _ => by
    have hb := h b List.mem_cons_self
    rw [List.cons_append, onB, if_neg (by rintro (e | e); exact hb.1 e; exact hb.2.1 e)]
    have : onB true (x ++ l) = onB true l := by
      by_cases hx : x = []
      · subst hx; rfl
      · rw [onB_nb x (fun u hu => h u (List.mem_cons_of_mem _ hu)) l true hx]; simp
    rw [this]
    cases inn <;> simp
theorem onB_words : ∀ (cs : List Nat), (∀ c ∈ cs, isN c) → 10 ∉ cs → ∀ cur, (if cur = [] then 0 else 1) + onB (!cur.isEmpty) (encL cs) = (wordsA cur cs).length
  | [], _, _, cur => by
    cases cur with
    | nil => rfl
    | cons c cur => simp [encL_nil, onB, wordsA]
  | c :: cs, h, h10, cur => by
    have ht : ∀ x ∈ cs, isN x := fun x hx => h x (List.mem_cons_of_mem _ hx)
    have h10' : 10 ∉ cs := fun e => h10 (List.mem_cons_of_mem _ e)
    have hc : c ≠ 10 := fun e => h10 (by rw [e]; exact List.mem_cons_self)
    by_cases hb : isB c = true
    · have hbl : ∀ inn, onB inn (encL (c :: cs)) = onB false (encL cs) := fun inn => by
        rw [encL_cons]
        rcases enc_bl hb with ⟨_, e⟩ | ⟨_, e⟩ | ⟨e, _⟩
        · rw [e]; simp [onB]
        · rw [e]; simp [onB]
        · exact absurd e hc
      have ih := onB_words cs ht h10' []
      simp only [List.isEmpty_nil, Bool.not_true, if_true] at ih
      rw [hbl, wordsA, if_pos hb]
      cases cur with
      | nil => rw [if_pos rfl, if_pos rfl, ← ih]
      | cons x cur => rw [if_neg (by simp), if_neg (by simp), List.length_cons, ← ih]; omega
    · have hb' : isB c = false := by simpa using hb
      obtain ⟨h1, h2⟩ := enc_nb (h c List.mem_cons_self) hb'
      have ih := onB_words cs ht h10' (cur ++ [c])
      have e : (!(cur ++ [c]).isEmpty) = true := by simp
      rw [if_neg (by simp), e] at ih
      rw [wordsA, if_neg hb, ← ih, encL_cons, onB_nb _ h1 _ _ h2]
      cases cur with
      | nil => simp
      | cons x cur => simp
theorem onB_one {cs : List Nat} (h : ∀ c ∈ cs, isN c) (h10 : 10 ∉ cs) : onB false (encL cs) = (wordsC cs).length := by
  have := onB_words cs h h10 []
  unfold wordsC
  simpa using this
theorem onB_le : ∀ (l : List UInt8) (inn : Bool), onB inn l ≤ l.length
  | [], _ => by simp [onB]
  | b :: l, inn => by
    have h1 := onB_le l false
    have h2 := onB_le l true
    unfold onB
    (repeat' split) <;> simp only [List.length_cons] <;> omega
end Go.Proofs.YtcfdalmllegefaaGreatDoor
/- package column: parts. -/
namespace Go.Proofs.YtcfdalmllegefaaGreatDoor
open Go.RowKit Go.Lib
set_option linter.unusedVariables false
set_option linter.unusedSimpArgs false
section
variable {w w' : World}
set_option maxHeartbeats 1000000 in
theorem isb_ok (x : Nat) (w : World) : Calls Tryz.prog 122 #[.int .i32 x] w fun e w' => e = .returned (.bool (isB x)) ∧ w = w' := by
  by_cases h1 : x = 32
  · subst h1
    go_enter Tryz.func122, Tryz.ntmps122
    go_wp2_with fail
    go_ret
    exact ⟨rfl, rfl⟩
  · by_cases h2 : x = 9
    · subst h2
      go_enter Tryz.func122, Tryz.ntmps122
      go_wp2_with fail
      go_ret
      exact ⟨rfl, rfl⟩
    · have d1 : ((x : Int) == (32 : Int)) = false := by rw [beq_eq_false_iff_ne]; omega
      have d2 : ((x : Int) = (32 : Int)) = False := eq_false (by omega)
      have d3 : ((x : Int) == (9 : Int)) = false := by rw [beq_eq_false_iff_ne]; omega
      have d4 : ((x : Int) = (9 : Int)) = False := eq_false (by omega)
      have e : isB x = ((x : Int) == (10 : Int)) := by
        unfold isB
        by_cases h3 : x = 10
        · subst h3; rfl
        · rw [show ((x : Int) == (10 : Int)) = false by rw [beq_eq_false_iff_ne]; omega]; simp [h1, h2, h3]
      rw [e]
      clear e h1 h2
      go_enter Tryz.func122, Tryz.ntmps122
      go_wp2_with fail
      go_ret
      exact ⟨rfl, rfl⟩
theorem parts_pred (w : World) : PredAtRunes Tryz.prog 122 #[] isB w := fun W x _ _ => by
  unfold FnGives
  rw [Array.append_empty]
  exact (isb_ok x W).mono fun e w' ⟨h1, h2⟩ => ⟨h1, 0, h2 ▸ rfl⟩
abbrev encW (s : ByteArray) : List Value := [.string s]
theorem eltW : Elt encW 81 9 1 16 (.string ⟨#[]⟩) := ⟨Tryz.underlying81, by kernel_rfl, rfl, by omega, fun _ => rfl, fun x u hu => by simp at hu; subst hu; rfl⟩
theorem cellsW (L : List ByteArray) : cellsL encW L = L.map Value.string := by
  induction L with
  | nil => rfl
  | cons x L ih =>
    show encW x ++ cellsL encW L = _
    rw [ih]; rfl
set_option maxHeartbeats 1000000 in
/-- The words of a valid string. -/
theorem parts_ok {s : ByteArray} {cs : List Nat} (h : charsD s.data.toList = some cs) (hs : s.size ≤ 1000000000) (w : World) :
    Calls Tryz.prog 51 #[.string s] w fun e w' => ∃ A, e = .returned (.slice (some ⟨A, 0, none⟩) (wordsC cs).length (wordsC cs).length) ∧ ROwn encW 9 1 w.heap.size w' (.slice (some ⟨A, 0, none⟩) (wordsC cs).length (wordsC cs).length) ((wordsC cs).map encS) ∧ Below w.heap.size w w' := by
  have hf := Any.strings_FieldsFunc_runes Tryz.laysFields 122 #[] (enters_mk Tryz.func122 (by kernel_rfl) rfl) isB s w (by omega) (parts_pred w) (by kernel_rfl) (by kernel_rfl)
  rw [fields_words h, List.length_map] at hf
  have HF := Lib.hid hf
  clear hf h hs
  go_enter Tryz.func51, Tryz.ntmps51
  go_wp2_with fail
  refine HF.out.mono ?_
  rintro e w1 ⟨A, rfl, hA, hown, hb⟩
  have H1 := Lib.hid (show ROwn encW 9 1 w.heap.size w1 (.slice (some ⟨A, 0, none⟩) (wordsC cs).length (wordsC cs).length) ((wordsC cs).map encS) by
    unfold ROwn; rw [cellsW, List.length_map]; exact hown)
  have B1 := Lib.hid hb
  clear hown hb hA
  go_wp2_with fail
  go_ret
  exact ⟨A, rfl, H1.out, B1.out⟩
end
end Go.Proofs.YtcfdalmllegefaaGreatDoor
/- package column: fill. -/
namespace Go.Proofs.YtcfdalmllegefaaGreatDoor
open Go.RowKit Go.Lib
set_option linter.unusedVariables false
set_option linter.unusedSimpArgs false
theorem wordsA_sum : ∀ (cs cur : List Nat), ∀ w ∈ wordsA cur cs, (encL w).length ≤ (encL cur).length + (encL cs).length
  | [], cur, w, hw => by
    unfold wordsA at hw
    split at hw
    · simp at hw
    · simp at hw; subst hw; omega
  | c :: cs, cur, w, hw => by
    have e : (encL (c :: cs)).length = (encL [c]).length + (encL cs).length := by rw [show c :: cs = [c] ++ cs from rfl, encL_append, List.length_append]
    unfold wordsA at hw
    split at hw
    · split at hw
      · have := wordsA_sum cs [] w hw
        rw [encL_nil, List.length_nil] at this; omega
      · rw [List.mem_cons] at hw
        rcases hw with rfl | hw
        · omega
        · have := wordsA_sum cs [] w hw
          rw [encL_nil, List.length_nil] at this; omega
    · have := wordsA_sum cs _ w hw
      rw [encL_append, List.length_append] at this; omega
theorem encS_len (cs : List Nat) : (encS cs).size = (encL cs).length := by rw [← size_len, encS_list]
section
variable {w w' : World}
theorem ROwn.keptB {B b : Nat} {v : Value} {ws : List ByteArray} (h : ROwn encW 9 1 B w v ws) (hk : Kept b w w') (hb : b < B) : ROwn encW 9 1 B w' v ws := by
  refine h.kept fun g hg => ?_
  have hB := h.base hg
  rcases h.2 with ⟨rfl, h0⟩ | ⟨g', cap, cur, rfl, hb', hg', _⟩
  · cases hg
  · have : g' = g := by simpa [Value.ownBlock] using hg
    subst this
    rw [hg']
    refine hk g' _ hg' (fun e => by cases e; omega) (fun c fz e => ?_)
    simp at e
theorem str_app (a b : ByteArray) : (a ++ b).data.toList = a.data.toList ++ b.data.toList := by simp
theorem app_string (s t : ByteArray) (h1 : s.size ≤ 1000000000) (h2 : t.size ≤ 1000000000) (w : World) : (binOp .add 9 (.string s) (.string t)).run Tryz.prog w = .ok (.string (s ++ t)) w := by
  rw [binOp_string_add]; exact run_string_add_sum _ s t (by omega)
set_option maxRecDepth 100000 in
set_option maxHeartbeats 8000000 in
/-- fill at a valid string. -/
theorem fill_ok {s : ByteArray} {cs : List Nat} (h : charsD s.data.toList = some cs) (hs : s.size ≤ 16000) (most tab : Nat) (hm : most ≤ 1000) (ht1 : 1 ≤ tab) (ht2 : tab ≤ 64) (w : World) :
    Calls Tryz.prog 49 #[.string s, .int .i64 most, .int .i64 tab] w fun e w' => e = .returned (.string (encS (fillC widN most tab cs))) ∧ Below w.heap.size w w' := by
  have ec := enc_chars _ _ _ (Nat.le_refl _) h
  have hcl := chars_len _ _ _ (Nat.le_refl _) h
  rw [size_len] at hcl
  have hsl : (encL cs).length = s.size := by rw [ec.1, size_len]
  have hlead : (encL (leadC cs)).length + (encL (cs.dropWhile isT)).length = s.size := by rw [← List.length_append, ← lead_enc, hsl]
  have hex := lead_extract h
  have hT := trimL_ok h w
  have hleadd : charsD (encS (leadC cs)).data.toList = some (leadC cs) := by rw [encS_list]; exact chars_enc _ (fun c hc => ec.2 c (leadC_in cs c hc))
  have hLs : (encS (leadC cs)).size ≤ s.size := by rw [encS_len]; omega
  have hRs : (encS (cs.dropWhile isT)).size ≤ s.size := by rw [encS_len]; omega
  obtain ⟨LD, hLD⟩ : ∃ L, L = encS (leadC cs) := ⟨_, rfl⟩
  obtain ⟨RS, hRS⟩ : ∃ L, L = encS (cs.dropWhile isT) := ⟨_, rfl⟩
  rw [← hLD] at hex hleadd hLs
  rw [← hRS] at hex hT hRs
  obtain ⟨n0, hn0⟩ : ∃ n, n = s.size - RS.size := ⟨_, rfl⟩
  rw [← hn0] at hex
  have s1 : IntKind.i64.wrap ((s.size : Int) - RS.size) = (n0 : Int) := by rw [hn0]; rw [IntWalk.i64_in _ (by omega)]; omega
  have s2 : (0 : Int) ≤ n0 := by omega
  have s3 : (n0 : Int) ≤ s.size := by omega
  have HT := Lib.hid hT
  have HP := fun w => Lib.hid (parts_ok h (by omega) w)
  have HEC := Lib.hid ec
  have HCL := Lib.hid hcl
  have HSL := Lib.hid hsl
  have HLd := Lib.hid hleadd
  have HLD := Lib.hid hLD
  have HLL := Lib.hid (show (encL (leadC cs)).length ≤ s.size by omega)
  have HSUF := fun w => Lib.hid (suffix_ok h (by omega) w)
  have HWS := Lib.hid (fun x hx => (wordsC_wd cs x hx))
  have HWIN := Lib.hid (fun x hx => (wordsC_in cs x hx))
  have HWSUM := Lib.hid (fun x (hx : x ∈ wordsC cs) => (wordsA_sum cs [] x hx))
  have HMANY := Lib.hid (wordsC_many cs)
  have HS := Lib.hid hs
  have HTB := Lib.hid (⟨ht1, ht2⟩ : _ ∧ _)
  have HM := Lib.hid hm
  have HLS := Lib.hid hLs
  clear h ec hcl hsl hlead hT hleadd hRs hLD hRS hn0 hs ht1 ht2 hm hLs
  go_enter Tryz.func49, Tryz.ntmps49
  go_wp2_with fail
  go_step3
  go_wp2_with fail
  refine HT.out.mono ?_
  rintro e w1 ⟨rfl, hb1⟩
  go_wp2_with fail
  go_step3
  go_wp2_with fail
  have hbd1 := Bd.made w1
  have hsz1 : (w1.alloc (.cells #[.pointer none, .slice none 0 0] 151)).heap.size = w1.heap.size + 1 := by simp
  have B1 := Lib.hid (up2 hb1 (below1 w1 (.cells #[.pointer none, .slice none 0 0] 151)))
  generalize w1.alloc (.cells #[.pointer none, .slice none 0 0] 151) = W1 at *
  have z1 := hb1.size
  have B1' := B1.out
  clear B1
  generalize hb : w1.heap.size = b at hbd1 hsz1 z1 ⊢
  have B1 := Lib.hid B1'
  clear B1'
  refine (HP _).out.mono ?_
  rintro e w2 ⟨A, rfl, hown, hb2⟩
  have HB0 := Lib.hid (hbd1.up hb2)
  rw [hsz1] at hown hb2
  have B2 := Lib.hid (up2 B1.out (hsz1.symm ▸ hb2))
  have HR0 := Lib.hid hown
  have Z1 := Lib.hid z1
  have Z2 := Lib.hid (show b < w2.heap.size by have := hb2.size; omega)
  clear hbd1 hown hb2 hsz1 hb z1 hb1
  obtain ⟨nw, hnw⟩ : ∃ n, n = (wordsC cs).length := ⟨_, rfl⟩
  have HNW := Lib.hid hnw
  rw [← hnw] at HR0 ⊢
  clear hnw
  go_wp2_with fail
  go_loopw [9, 24] (fun vc vi wr => ∃ (i : Nat) (out : List Nat) (col : Nat), vc = .int .i64 col ∧ vi = .int .i64 i ∧ i ≤ nw ∧ FillAt most tab cs i out col ∧ Bd b b (encL out) wr ∧ ROwn encW 9 1 (b + 1) wr (.slice (some ⟨A, 0, none⟩) nw nw) ((wordsC cs).map encS) ∧ Below w.heap.size w wr ∧ (encL out).length ≤ i * (2 * s.size + 2) ∧ col ≤ 3000000 ∧ b < wr.heap.size) (fun _ vi _ => int2 vi (.int .i64 nw))
  case atStart => exact ⟨0, [], 0, rfl, rfl, Nat.zero_le _, .inl ⟨rfl, rfl, rfl⟩, HB0.out, HR0.out, B2.out, by simp [encL_nil], by omega, Z2.out⟩
  case round =>
    obtain ⟨i, out, col, rfl, rfl, hi, hfa, hbd, hrow, hbel, hlen, hcol, hbl⟩ := hrel
    have HFA := Lib.hid hfa
    have HBD := Lib.hid hbd
    have HROW := Lib.hid hrow
    have HBEL := Lib.hid hbel
    have HLEN := Lib.hid hlen
    clear hfa hbd hrow hbel hlen
    by_cases hlt : i < nw
    · obtain ⟨wd, hwd⟩ : ∃ x, (wordsC cs)[i]? = some x := ⟨_, List.getElem?_eq_getElem (by have := HNW.out; omega)⟩
      have hmem := List.mem_of_getElem? hwd
      have hsw := wordsA_sum cs [] wd hmem
      rw [encL_nil, List.length_nil, HSL.out, Nat.zero_add] at hsw
      have hwc := (wordsC_in cs wd hmem)
      have hwl := hwc.1
      have hNw : ∀ c ∈ wd, isN c := fun c hc => HEC.out.2 c (hwc.2 c hc)
      have hchw : charsD (encS wd).data.toList = some wd := by rw [encS_list]; exact chars_enc _ hNw
      have hwsz : (encS wd).size ≤ s.size := by rw [encS_len]; exact hsw
      have hwEl : ((wordsC cs).map encS)[i]? = some (encS wd) := by rw [List.getElem?_map, hwd]; rfl
      obtain ⟨WD, hWD⟩ : ∃ x, x = encS wd := ⟨_, rfl⟩
      rw [← hWD] at hchw hwsz hwEl
      obtain ⟨A', cap, e, hq1, hq2, hR⟩ := HROW.out.shape eltW
      have hAe : A' = some ⟨A, 0, none⟩ := by cases e; rfl
      subst hAe
      clear e hq1 hq2
      obtain ⟨g, o, e2, hg, hcell⟩ := hR.at_ eltW hwEl
      cases e2
      have k0 := hcell 0 _ rfl
      simp only [Nat.mul_one, Nat.add_zero, Nat.zero_add] at k0
      have hnb : nw ≤ 16001 := by have h1 := HMANY.out; have h2 := HCL.out; have h3 := HS.out; have h4 := HNW.out; omega
      have d1 : decide ((i : Int) < (nw : Int)) = true := decide_eq_true (by omega)
      have d2 : (i < nw) = True := eq_true hlt
      have i0 : (0 : Int) ≤ i := by omega
      have i1 : (i : Int) < nw := by omega
      obtain ⟨j, hj⟩ : ∃ j, j = i + 1 := ⟨_, rfl⟩
      have s4 : IntKind.i64.wrap ((i : Int) + 1) = (j : Int) := by rw [IntWalk.i64_in _ (by omega)]; omega
      have hzl : LD.size + WD.size ≤ 40000 := by have := HLS.out; have := HS.out; omega
      have hz1 : (⟨#[32]⟩ : ByteArray).size ≤ 1 := Nat.le_refl _
      obtain ⟨K1, hK1⟩ : ∃ k, k = widthC tab widN 0 (leadC cs) := ⟨_, rfl⟩
      have hK1l : K1 ≤ 64 * (leadC cs).length := by rw [hK1]; have := widthC_le (tab := tab) HTB.out.2 (leadC cs) 0; omega
      have hll := leadC_len cs
      have HW0 := fun (w : World) => Lib.hid (show Calls Tryz.prog 115 #[.int .i64 0, .string LD, .int .i64 tab] w fun e w' => e = .returned (.int .i64 (K1 : Nat)) ∧ Below w.heap.size w w' from by
        rw [hK1]; exact cwidth_ok HLd.out (by have := HLS.out; have := HS.out; omega) 0 tab (by omega) HTB.out.1 HTB.out.2 w)
      obtain ⟨K2, hK2⟩ : ∃ k, k = widthC tab widN K1 wd := ⟨_, rfl⟩
      have hK2l : K2 ≤ 3000000 := by rw [hK2]; have := widthC_le (tab := tab) HTB.out.2 wd K1; have := HCL.out; have := HS.out; omega
      have HW1 := fun (w : World) => Lib.hid (show Calls Tryz.prog 115 #[.int .i64 K1, .string WD, .int .i64 tab] w fun e w' => e = .returned (.int .i64 (K2 : Nat)) ∧ Below w.heap.size w w' from by
        rw [hK2]; exact cwidth_ok hchw (by have := HS.out; omega) K1 tab (by have := HCL.out; have := HS.out; omega) HTB.out.1 HTB.out.2 w)
      have hcap : (encL out).length ≤ 512100000 := by
        have h1 := HLEN.out
        have h2 : i * (2 * s.size + 2) ≤ 16001 * 32002 := Nat.mul_le_mul (by omega) (by have := HS.out; omega)
        omega
      have SZ4 := Lib.hid (show (encL out).length + (LD.size + WD.size + 1) ≤ 1000000000 by omega)
      have BD4 := HBD
      have ROW4 := HROW
      have BEL4 := HBEL
      have BLT4 := Lib.hid hbl
      have HJ := Lib.hid hj
      have HK1 := Lib.hid hK1
      have HK2 := Lib.hid hK2
      have K2LE := Lib.hid hK2l
      have HWDI := Lib.hid hwd
      have HWD := Lib.hid hWD
      have HWL := Lib.hid (show (encL wd).length ≤ s.size by omega)
      clear hK1 hK2 hK1l hK2l hll hcap hj hbl hwd hWD hwEl hsw hwc hwl hNw hmem hnb hcell hR
      by_cases h0 : i = 0
      · have d3 : decide ((0 : Int) < (i : Int)) = false := decide_eq_false (by omega)
        have d4 : (0 < i) = False := eq_false (by omega)
        have HOUT := Lib.hid (show out = [] by
          rcases HFA.out with ⟨_, q, _⟩ | ⟨q, _⟩
          · exact q
          · omega)
        have H0 := Lib.hid h0
        clear h0
        go_wp2_with fail
        all_goals (try (exfalso; omega))
        refine (bwrite BD4.out (LD ++ WD) (by have := SZ4.out; rw [ByteArray.size_append]; omega) (Nat.le_of_lt BLT4.out)).mono ?_
        rintro e w5 ⟨⟨v, rfl⟩, hbd5, hb5, hk5⟩
        have BD5 := Lib.hid hbd5
        have ROW5 := Lib.hid (ROW4.out.keptB hk5 (Nat.lt_succ_self b))
        have BEL5 := Lib.hid (BEL4.out.trans (hb5.mono Z1.out))
        have BLT5 := Lib.hid (Nat.lt_of_lt_of_le BLT4.out hb5.size)
        clear hbd5 hb5 hk5
        go_wp2_with fail
        refine (HW0 w5).out.mono ?_
        rintro e w6 ⟨rfl, hb6⟩
        have BD6 := Lib.hid (BD5.out.up hb6)
        have ROW6 := Lib.hid (ROW5.out.up hb6)
        have BEL6 := Lib.hid (BEL5.out.trans (hb6.mono BEL5.out.size))
        have BLT6 := Lib.hid (Nat.lt_of_lt_of_le BLT5.out hb6.size)
        clear hb6
        go_wp2_with fail
        refine (HW1 w6).out.mono ?_
        rintro e w7 ⟨rfl, hb7⟩
        have BD7 := Lib.hid (BD6.out.up hb7)
        have ROW7 := Lib.hid (ROW6.out.up hb7)
        have BEL7 := Lib.hid (BEL6.out.trans (hb7.mono BEL6.out.size))
        have BLT7 := Lib.hid (Nat.lt_of_lt_of_le BLT6.out hb7.size)
        clear hb7
        go_wp2_with fail
        go_roundw
        case rel =>
          have hfa2 : FillAt most tab cs j (leadC cs ++ wd) K2 := by rw [HJ.out, HK2.out, HK1.out]; exact HFA.out.first H0.out HWDI.out
          have hbd2 : Bd b b (encL (leadC cs ++ wd)) w7 := by
            have := BD7.out
            rw [str_app, HLD.out, HWD.out, encS_list, encS_list, HOUT.out, encL_nil, List.nil_append, ← encL_append] at this
            exact this
          have hle2 : (encL (leadC cs ++ wd)).length ≤ j * (2 * s.size + 2) := by
            rw [HJ.out, Nat.add_mul, Nat.one_mul, encL_append, List.length_append]
            have := HLL.out; have := HWL.out; omega
          have hj2 : j ≤ nw := by have := HJ.out; omega
          first
          | exact ⟨j, leadC cs ++ wd, K2, rfl, rfl, hj2, hfa2, hbd2, ROW7.out, BEL7.out, hle2, K2LE.out, BLT7.out⟩
          | ((repeat apply Exists.intro); exact ⟨⟨rfl, rfl, hj2, hfa2, hbd2, ROW7.out, BEL7.out, hle2, K2LE.out, BLT7.out⟩, rfl⟩)
          | ((repeat apply Exists.intro); exact ⟨⟨j, leadC cs ++ wd, K2, rfl, rfl, hj2, hfa2, hbd2, ROW7.out, BEL7.out, hle2, K2LE.out, BLT7.out⟩, rfl⟩)
        case measure => have := HJ.out; simp [int2]; omega
      · have d3 : decide ((0 : Int) < (i : Int)) = true := decide_eq_true (by omega)
        have d4 : (0 < i) = True := eq_true (by omega)
        have H0 := Lib.hid (show 1 ≤ i by omega)
        obtain ⟨c1, hc1⟩ : ∃ c, c = col + 1 := ⟨_, rfl⟩
        have s5 : IntKind.i64.wrap ((col : Int) + 1) = (c1 : Int) := by rw [IntWalk.i64_in _ (by omega)]; omega
        obtain ⟨K, hK⟩ : ∃ k, k = widthC tab widN c1 wd := ⟨_, rfl⟩
        have HWC := fun (w : World) => Lib.hid (show Calls Tryz.prog 115 #[.int .i64 c1, .string WD, .int .i64 tab] w fun e w' => e = .returned (.int .i64 (K : Nat)) ∧ Below w.heap.size w w' from by
          rw [hK]; exact cwidth_ok hchw (by have := HS.out; omega) c1 tab (by omega) HTB.out.1 HTB.out.2 w)
        have HC1 := Lib.hid hc1
        have HK := Lib.hid hK
        clear hc1 hK h0 hcol
        go_wp2_with fail
        refine (HWC wr).out.mono ?_
        rintro e w3 ⟨rfl, hb3⟩
        have BD3 := Lib.hid (BD4.out.up hb3)
        have ROW3 := Lib.hid (ROW4.out.up hb3)
        have BEL3 := Lib.hid (BEL4.out.trans (hb3.mono BEL4.out.size))
        have BLT3 := Lib.hid (Nat.lt_of_lt_of_le BLT4.out hb3.size)
        clear hb3 BD4 ROW4 BEL4 BLT4 HBD HROW HBEL
        by_cases hle : K ≤ most
        · have d5 : decide ((K : Int) ≤ (most : Int)) = true := decide_eq_true (by omega)
          have d6 : (K ≤ most) = True := eq_true hle
          have HLE := Lib.hid hle
          clear hle
          go_wp2_with fail
          all_goals (try (exfalso; omega))
          refine (bwrite BD3.out ((⟨#[32]⟩ : ByteArray) ++ WD) (by have := SZ4.out; rw [ByteArray.size_append]; omega) (Nat.le_of_lt BLT3.out)).mono ?_
          rintro e w5 ⟨⟨v, rfl⟩, hbd5, hb5, hk5⟩
          have BD5 := Lib.hid hbd5
          have ROW5 := Lib.hid (ROW3.out.keptB hk5 (Nat.lt_succ_self b))
          have BEL5 := Lib.hid (BEL3.out.trans (hb5.mono Z1.out))
          have BLT5 := Lib.hid (Nat.lt_of_lt_of_le BLT3.out hb5.size)
          clear hbd5 hb5 hk5
          go_wp2_with fail
          go_roundw
          case rel =>
            refine ⟨j, out ++ 32 :: wd, K, rfl, rfl, by have := HJ.out; omega, ?_, ?_, ROW5.out, BEL5.out, ?_, by have := HLE.out; have := HM.out; omega, BLT5.out⟩
            · rw [HJ.out, HK.out, HC1.out]; exact HFA.out.join H0.out HWDI.out (by have := HK.out; rw [HC1.out] at this; rw [← this]; exact HLE.out)
            · have := BD5.out
              rw [str_app, HWD.out, encS_list] at this
              rw [encL_append, encL_cons]
              exact this
            · have e32 : (Utf8.encode ((32 : Nat) : Int)).data.toList.length = 1 := rfl
              rw [HJ.out, Nat.add_mul, Nat.one_mul, encL_append, List.length_append, encL_cons, List.length_append, e32]
              have := HWL.out; have := HLEN.out; omega
          case measure => have := HJ.out; simp [int2]; omega
        · have d5 : decide ((K : Int) ≤ (most : Int)) = false := decide_eq_false (by omega)
          have d6 : (K ≤ most) = False := eq_false hle
          have HLE := Lib.hid hle
          clear hle
          go_wp2_with fail
          refine (show Calls Tryz.prog 117 #[.pointer (some ⟨b, 0, none⟩), .int .u8 10] w3 _ from bwrite1 BD3.out 10 (by have := SZ4.out; omega) (Nat.le_of_lt BLT3.out)).mono ?_
          rintro e w4 ⟨⟨v, rfl⟩, hbd5, hb5, hk5⟩
          have BD4 := Lib.hid (show Bd b b (encL (out ++ [10])) w4 by rw [encL_append, encL_cons, encL_nil, List.append_nil]; exact hbd5)
          have ROW4 := Lib.hid (ROW3.out.keptB hk5 (Nat.lt_succ_self b))
          have BEL4 := Lib.hid (BEL3.out.trans (hb5.mono Z1.out))
          have BLT4 := Lib.hid (Nat.lt_of_lt_of_le BLT3.out hb5.size)
          have SZ5 := SZ4
          clear SZ4
          have SZ4 := Lib.hid (show (encL (out ++ [10])).length + (LD.size + WD.size) ≤ 1000000000 by
            have e10 : (Utf8.encode ((10 : Nat) : Int)).data.toList.length = 1 := rfl
            rw [encL_append, List.length_append, encL_cons, List.length_append, e10, encL_nil, List.length_nil]
            have := SZ5.out; omega)
          clear hbd5 hb5 hk5
          go_wp2_with fail
          all_goals (try (exfalso; omega))
          refine (bwrite BD4.out (LD ++ WD) (by have := SZ4.out; rw [ByteArray.size_append]; omega) (Nat.le_of_lt BLT4.out)).mono ?_
          rintro e w5 ⟨⟨v, rfl⟩, hbd5, hb5, hk5⟩
          have BD5 := Lib.hid hbd5
          have ROW5 := Lib.hid (ROW4.out.keptB hk5 (Nat.lt_succ_self b))
          have BEL5 := Lib.hid (BEL4.out.trans (hb5.mono Z1.out))
          have BLT5 := Lib.hid (Nat.lt_of_lt_of_le BLT4.out hb5.size)
          clear hbd5 hb5 hk5
          go_wp2_with fail
          refine (HW0 w5).out.mono ?_
          rintro e w6 ⟨rfl, hb6⟩
          have BD6 := Lib.hid (BD5.out.up hb6)
          have ROW6 := Lib.hid (ROW5.out.up hb6)
          have BEL6 := Lib.hid (BEL5.out.trans (hb6.mono BEL5.out.size))
          have BLT6 := Lib.hid (Nat.lt_of_lt_of_le BLT5.out hb6.size)
          clear hb6
          go_wp2_with fail
          refine (HW1 w6).out.mono ?_
          rintro e w7 ⟨rfl, hb7⟩
          have BD7 := Lib.hid (BD6.out.up hb7)
          have ROW7 := Lib.hid (ROW6.out.up hb7)
          have BEL7 := Lib.hid (BEL6.out.trans (hb7.mono BEL6.out.size))
          have BLT7 := Lib.hid (Nat.lt_of_lt_of_le BLT6.out hb7.size)
          clear hb7
          go_wp2_with fail
          go_roundw
          case rel =>
            refine ⟨j, out ++ 10 :: (leadC cs ++ wd), K2, rfl, rfl, by have := HJ.out; omega, ?_, ?_, ROW7.out, BEL7.out, ?_, K2LE.out, BLT7.out⟩
            · rw [HJ.out, HK2.out, HK1.out]; exact HFA.out.break_ H0.out HWDI.out (by have := HK.out; rw [HC1.out] at this; rw [← this]; exact HLE.out)
            · have := BD7.out
              rw [str_app, HLD.out, HWD.out, encS_list, encS_list, ← encL_append, ← encL_append, List.append_assoc] at this
              exact this
            · have e10 : (Utf8.encode ((10 : Nat) : Int)).data.toList.length = 1 := rfl
              rw [HJ.out, Nat.add_mul, Nat.one_mul, encL_append, List.length_append, encL_cons, List.length_append, e10, encL_append, List.length_append]
              have := HLL.out; have := HWL.out; have := HLEN.out; omega
          case measure => have := HJ.out; simp [int2]; omega
    · obtain rfl : i = nw := by omega
      have d1 : decide ((i : Int) < (i : Int)) = false := decide_eq_false (by omega)
      have d2 : (i < i) = False := eq_false (by omega)
      have hall : out = fillW widN (leadC cs) most tab (wordsC cs) := by
        have := HFA.out
        rw [HNW.out] at this
        exact this.all
      have hcap : (encL out).length ≤ 512100000 := by
        have h1 := HLEN.out
        have h2 : i * (2 * s.size + 2) ≤ 16001 * 32002 := Nat.mul_le_mul (by have h1 := HMANY.out; have h2 := HCL.out; have h3 := HS.out; have h4 := HNW.out; omega) (by have := HS.out; omega)
        omega
      have HALL := Lib.hid hall
      have HCAP := Lib.hid hcap
      have BLT := Lib.hid hbl
      clear hall hcap hbl hcol
      go_wp2_with fail
      refine (HSUF wr).out.mono ?_
      rintro e w5 ⟨rfl, rfl⟩
      by_cases hnl : cs.getLast? = some 10
      · have d3 : decide (cs.getLast? = some 10) = true := decide_eq_true hnl
        have HNL := Lib.hid hnl
        clear hnl
        go_wp2_with fail
        refine (show Calls Tryz.prog 117 #[.pointer (some ⟨b, 0, none⟩), .int .u8 10] wr _ from bwrite1 HBD.out 10 (by have := HCAP.out; omega) (Nat.le_of_lt BLT.out)).mono ?_
        rintro e w6 ⟨⟨v, rfl⟩, hbd6, hb6, hk6⟩
        have BD6 := Lib.hid hbd6
        have BEL6 := Lib.hid (HBEL.out.trans (hb6.mono Z1.out))
        have BLT6 := Lib.hid (Nat.lt_of_lt_of_le BLT.out hb6.size)
        clear hbd6 hb6 hk6
        go_wp2_with fail
        refine (bstring BD6.out (Nat.le_of_lt BLT6.out)).mono ?_
        rintro e w7 ⟨rfl, hb7⟩
        have BEL7 := Lib.hid (BEL6.out.trans (hb7.mono Z1.out))
        clear hb7
        go_wp2_with fail
        rw [Exit.noGoto_ret]
        go_ret
        refine ⟨?_, BEL7.out⟩
        refine congrArg (fun b => Ending.returned (.string b)) (bytes_ext ?_)
        rw [encS_list]
        unfold fillC endNL
        rw [if_pos HNL.out, ← HALL.out, encL_append, encL_cons, encL_nil, List.append_nil]
        rfl
      · have d3 : decide (cs.getLast? = some 10) = false := decide_eq_false hnl
        have HNL := Lib.hid hnl
        clear hnl
        go_wp2_with fail
        refine (bstring HBD.out (Nat.le_of_lt BLT.out)).mono ?_
        rintro e w7 ⟨rfl, hb7⟩
        have BEL7 := Lib.hid (HBEL.out.trans (hb7.mono Z1.out))
        clear hb7
        go_wp2_with fail
        rw [Exit.noGoto_ret]
        go_ret
        refine ⟨?_, BEL7.out⟩
        refine congrArg (fun b => Ending.returned (.string b)) (bytes_ext ?_)
        rw [encS_list]
        unfold fillC endNL
        rw [if_neg HNL.out, ← HALL.out, List.append_nil]
end
end Go.Proofs.YtcfdalmllegefaaGreatDoor
/- A range over a function that writes a variable of its own (one box): the law for a body that never leaves the loop. -/
namespace Go.Proofs.YtcfdalmllegefaaGreatDoor
open Go.RowKit Go.Shelf
set_option linter.unusedVariables false
/-- What a round keeps: the iterator's own box. -/
def KpBox (B : Nat) (A C : World) : Prop := C.heap[B]? = A.heap[B]? ∧ A.heap.size ≤ C.heap.size
theorem KpBox.trans {B : Nat} {X Y Z : World} (h : KpBox B X Y) (k : KpBox B Y Z) : KpBox B X Z := ⟨k.1.trans h.1, Nat.le_trans h.2 k.2⟩
theorem KpBox.put {B l : Nat} {W : World} {o : Obj} (h : B ≠ l) : KpBox B W (W.putObj l o) := ⟨World.putObj_heap_other h, Nat.le_of_eq World.putObj_size.symm⟩
/-- The contract of such an iterator: it hands on the elements of L, and may write its box Bs between two rounds. -/
def SeqBox {α : Type} (F : Fence) (n : Nat) (P : Program) (gf : Nat) (lb : Array Value) (encs : α → Array Value) (Bs : Nat) (L : List α) (w : World) : Prop :=
  ∀ (l : Nat) (J : List α → World → Prop) (W : World), Below w.heap.size w W → AbidesFrom W.heap.size J → (∀ pre W v, J pre W → J pre (W.setCell ⟨Bs, 0, none⟩ v)) →
    (∀ pre x W1, J pre W1 → pre ++ [x] <+: L → YieldAt F (n - 1) P l (encs x) W1 fun e W' => e = .returned (.bool true) ∧ J (pre ++ [x]) W' ∧ KpBox Bs W1 W') →
    J [] W → CallsIn F n P gf (#[.func (.yield l) #[] #[]] ++ lb) W fun e W' => (∃ v, e = .returned v) ∧ J L W'
variable {F : Fence} {n : Nat} {P : Program}
theorem wpIn_range_box {α : Type} {g : Operand} {ps : Array Tmp} {assign body : Code} {Q : Exit → Act → World → Prop} {a : Act} {w : World}
    (hro : F.round = none) (h1 : 1 ≤ n) {gf : Nat} {lb : Array Value} (hg : a.eval g = .func (.func gf) #[] lb) (hFg : F.fn gf) (eg : ∀ args w, (callFunc gf args).run P w = .ok (.enter gf args) w)
    {encs : α → Array Value} {Bs : Nat} {L : List α} (hB : Bs < w.heap.size) (hseq : SeqBox F (n - 1) P gf lb encs Bs L w) (hps : ∀ x, (encs x).size = ps.size)
    (I : List α → World → Prop) (hI : OwnFrom w.heap.size I) (hIs : ∀ pre W v, I pre W → I pre (W.setCell ⟨Bs, 0, none⟩ v)) (h0 : I [] w) (a₁ : α → Act)
    (hassign : ∀ (l : Nat) (x : α) (W : World) (K : Act → World → Prop), K (a₁ x) W →
      assign.wpIn (F.inRound l) (n - 1 - 1) P (Exit.then K (fun _ _ _ => False)) { tmps := (ps.zip (encs x)).foldl (fun t (p, v) => t.setIfInBounds p v) a.tmps, defers := [] } W)
    (hbody : ∀ (l : Nat) (pre : List α) (x : α) (W : World), I pre W → pre ++ [x] <+: L → body.wpIn (F.inRound l) (n - 1 - 1) P (ownPostK (KpBox Bs) I (fun _ _ _ => False) (pre ++ [x]) W) (a₁ x) W)
    (hdone : ∀ (D : Nat) (W : World), w.heap.size ≤ D → I L W → W.heap[D]? = some (.deferred (some [])) → Q .normal { a with defers := { target := .collected D, args := #[] } :: a.defers } W) :
    (Code.rangeFunc g ps assign body).wpIn F n P Q a w := by
  refine wpIn_rangeFunc fun fn hfn => ?_
  rw [hro]
  let R : LoopState → Loop := fun st => { state := st, pending := none, fn, tmps := a.tmps, params := ps, assign, body, defers := w.heap.size }
  let W1 := (w.alloc (.deferred (some []))).alloc (.loop (R .ready))
  have hrec : W1.heap[w.heap.size + 1]? = some (.loop (R .ready)) := by
    have := World.alloc_heap_new (w.alloc (.deferred (some []))) (.loop (R .ready)); rwa [World.size_alloc] at this
  have hdef : W1.heap[w.heap.size]? = some (.deferred (some [])) := (Below.heap_alloc _ _ _ (by simp)).trans (World.alloc_heap_new w _)
  have hsz : W1.heap.size = w.heap.size + 1 + 1 := by show ((w.alloc _).alloc _).heap.size = _; rw [World.size_alloc, World.size_alloc]
  have hbel : Below w.heap.size w W1 := ((Below.refl _ w).alloc (Nat.le_refl _) _).alloc (by simp) _
  refine ⟨w.heap.size + 1, [{ target := .collected w.heap.size, args := #[] }], W1, { target := .fn (.func gf) lb, args := #[.func (.yield (w.heap.size + 1)) #[] #[]] }, W1, gf,
    #[.func (.yield (w.heap.size + 1)) #[] #[]] ++ lb, W1, run_enterLoop_outer _ _ _ _ _, ?_, ?_, ?_, fun _ => h1, ?_⟩
  · simp only [resolve, hg]; simp [go_sem]
  · intro f' hf'; simp [Target.leads] at hf'; subst hf'; exact hFg
  · simp [invoke, go_sem, eg]
  -- what holds between two rounds
  let J : List α → World → Prop := fun pre W => I pre W ∧ W.heap[w.heap.size + 1]? = some (.loop (R .ready)) ∧ W.heap[w.heap.size]? = some (.deferred (some []))
  have hJ : AbidesFrom W1.heap.size J := fun s A B row hs hgr hr => by
    have keep : ∀ {k : Nat} {o : Obj}, A.heap[k]? = some o → o.isWalk = false → B.heap[k]? = A.heap[k]? := fun h h' => grownBy_keeps hgr (fun r e => (hr r e).2) h h'
    refine ⟨hI s A B row hs.1 hgr (fun r e => ?_), (keep hs.2.1 rfl).trans hs.2.1, (keep hs.2.2 rfl).trans hs.2.2⟩
    obtain ⟨q1, o, q2, q3⟩ := hr r e
    exact ⟨by omega, o, q2, Obj.not_cells_of_walk q3⟩
  have hJs : ∀ pre W v, J pre W → J pre (W.setCell ⟨Bs, 0, none⟩ v) := fun pre W v hs =>
    ⟨hIs pre W v hs.1, (Below.heap_setCell _ _ _ _ (by show w.heap.size + 1 ≠ Bs; omega)).trans hs.2.1, (Below.heap_setCell _ _ _ _ (by show w.heap.size ≠ Bs; omega)).trans hs.2.2⟩
  refine (hseq (w.heap.size + 1) J W1 hbel hJ hJs ?_ ⟨hI.alloc _ (hI.alloc _ h0), hrec, hdef⟩).mono ?_
  · rintro pre x W ⟨hi, hl, hk⟩ hpre
    have hlt : w.heap.size + 1 < W.heap.size := (Array.getElem?_eq_some_iff.1 hl).1
    refine ⟨fn, _, assign, body, run_yield hl (hps x), roundIn_of_wpIn hfn (hassign _ x W _ ⟨_, run_beginRound hl rfl, ?_⟩)⟩
    have hl2 : (W.putObj (w.heap.size + 1) (.loop (R .busy))).heap[w.heap.size + 1]? = some (.loop (R .busy)) := World.putObj_heap_same hlt
    have hk2 : (W.putObj (w.heap.size + 1) (.loop (R .busy))).heap[w.heap.size]? = some (.deferred (some [])) := (World.putObj_heap_other (by omega)).trans hk
    refine wpIn_mono (hbody _ pre x _ (hI.putObj _ hi (by omega) hl rfl) hpre) ?_
    rintro e a3 W3 hp
    cases e with
    | normal =>
      obtain ⟨hk3, hkp, hi3⟩ := hp
      have hl3 := hk3.same _ _ hl2 rfl
      have hd3 := hk3.same _ _ hk2 rfl
      refine ⟨_, _, run_endRound (P := P) none hl3, rfl, ⟨hI.putObj _ hi3 (by omega) hl3 rfl, World.putObj_heap_same (Array.getElem?_eq_some_iff.1 hl3).1, (World.putObj_heap_other (by omega)).trans hd3⟩, ?_⟩
      exact ((KpBox.put (by omega)).trans hkp).trans (KpBox.put (by omega))
    | ret => exact hp.2.elim
    | exit id => exact hp.2.elim
    | goto t => exact hp.2.elim
    | panic ch => exact hp.elim
    | outgrown => exact hp.elim
  · rintro e W2 ⟨⟨v, rfl⟩, hi, hl, hk⟩
    exact ⟨none, _, run_endLoop (P := P) hl (by simp [R]), hdone _ _ (Nat.le_refl _) (hI.putObj _ hi (by omega) hl rfl) ((World.putObj_heap_other (by omega)).trans hk)⟩
end Go.Proofs.YtcfdalmllegefaaGreatDoor
/- package column: rows (its iterator), and the closure of FillText. -/
namespace Go.Proofs.YtcfdalmllegefaaGreatDoor
open Go.RowKit Go.Shelf Go.Lib
set_option linter.unusedVariables false
set_option linter.unusedSimpArgs false
section
attribute [local go_sem] Oper.semAt_some
variable {w w' : World}
theorem crows_ok (s : ByteArray) (w : World) : Calls Tryz.prog 50 #[.string s] w fun e w' => e = .returned (.func (.func 120) #[] #[.pointer (some ⟨w.heap.size, 0, none⟩)]) ∧ w' = w.alloc (.cells #[.string s] 9) := by
  go_enter Tryz.func50, Tryz.ntmps50
  go_wp2_with fail
  go_ret
  exact ⟨rfl, rfl⟩
/-- How long the string in a box is. -/
def boxLen (B : Nat) (w : World) : Nat := match w.cell? ⟨B, 0, none⟩ with | some (.string t) => t.size | _ => 0
theorem boxLen_of {B : Nat} {w : World} {t : ByteArray} (h : Blk w B 9 #[.string t]) : boxLen B w = t.size := by
  unfold boxLen; rw [h.cell (j := 0) (v := .string t) rfl]
abbrev encRw (r : List Nat) : Array Value := #[.string (encS r)]
set_option maxRecDepth 100000 in
set_option maxHeartbeats 4000000 in
/-- The iterator hands on the rows. -/
theorem rows1_box (n : Nat) {s : ByteArray} {cs : List Nat} (h : charsD s.data.toList = some cs) (hs : s.size ≤ 1000000) (Bs : Nat) (w : World) (hb : Blk w Bs 9 #[.string s]) :
    SeqBox Fence.wide n Tryz.prog 120 #[.pointer (some ⟨Bs, 0, none⟩)] encRw Bs (rowsC cs) w := fun l J W hW hJ hJs hY h0 => by
  have hb0 := hb.up hW
  have HY := Lib.hid hY
  have HC := Lib.hid h
  clear hY hb h
  refine callsIn_of_wp Tryz.func120 rfl trivial ?_ rfl
  simp only [Tryz.ntmps120, List.size_toArray, List.length_cons, List.length_nil, Nat.reduceAdd, Nat.reduceSub, Array.replicate_succ, Array.replicate_zero, List.push_toArray, List.append_toArray, List.nil_append, List.cons_append]
  gi_wp2
  gi_loopw [] (fun wr => ∃ (pre : List (List Nat)) (t : ByteArray) (rc : List Nat), J pre wr ∧ rowsC cs = pre ++ rowsC rc ∧ charsD t.data.toList = some rc ∧ t.size ≤ 1000000 ∧ Blk wr Bs 9 #[.string t]) (fun wr => boxLen Bs wr)
  case atStart => exact ⟨[], s, cs, h0, rfl, HC.out, hs, hb0⟩
  case round =>
    obtain ⟨pre, t, rc, hj, hr, hc, ht, hbx⟩ := hrel
    have c0 := hbx.cell (j := 0) rfl
    by_cases hlt : 0 < t.size
    · obtain ⟨r, rc', k, h1, h2, h3, h4, h5, h6⟩ := first_row hc hlt
      have d1 : decide ((0 : Int) < (t.size : Int)) = true := decide_eq_true (by omega)
      have d2 : (0 < t.size) = True := eq_true hlt
      have k0 : (0 : Int) ≤ k := by omega
      have k1 : (k : Int) ≤ t.size := by omega
      have hyl := HY.out pre r wr hj (by rw [hr, h1]; exact ⟨rowsC rc', by simp⟩)
      have hsz := extract_size t k h3
      have HJ2 := Lib.hid hj
      have HR := Lib.hid hr
      have H1 := Lib.hid h1
      have H2 := Lib.hid h2
      have H6 := Lib.hid h6
      have HB := Lib.hid hbx
      have HLT := Lib.hid hlt
      have hix : ∀ w', Calls Tryz.prog 68 #[.string t, .int .u8 10] w' fun e w'' => e = .returned (.int .i64 (indexByte t.data.toList 10)) ∧ w'' = w' := fun w' => Any.strings_IndexByte Tryz.laysIdx t 10 w'
      have HBB := HB
      have hy2 : ∃ fn tmps assign body, (Instr.yield l #[.string (t.extract 0 k)]).run Tryz.prog wr = .ok (.round l fn tmps assign body) wr ∧ RoundIn Fence.wide (n - 1) Tryz.prog l fn tmps assign body wr fun e W' => e = .returned (.bool true) ∧ J (pre ++ [r]) W' ∧ KpBox Bs wr W' := by
        rw [h5]; exact hyl
      obtain ⟨fn, tmps, assign, body, hy, hR⟩ := hy2
      have HH5 := Lib.hid h5
      clear hyl h5
      rcases h4 with ⟨q1, q2⟩ | q1
      · rw [q1] at hix
        have HIX := Lib.hid hix
        have s1 : IntKind.i64.wrap ((-1 : Int) + 1) = 0 := rfl
        subst q2
        have hxx : t.extract 0 t.size = t := by simp
        rw [hxx] at hy
        have hEE : t.extract t.size t.size = ByteArray.empty := by simp
        have H6' := Lib.hid (show charsD ByteArray.empty.data.toList = some rc' by rw [← hEE]; exact H6.out)
        clear hEE
        clear q1 hix hxx
        gi_wp2_with fail
        refine ⟨trivial, (fun h => by cases h), (callsIn_wide.2 (HIX.out _)).mono ?_⟩
        rintro e w3 ⟨rfl, rfl⟩
        gi_wp2_with fail
        refine ⟨(fun h => by cases h), hR.mono ?_⟩
        clear hR hy
        rintro e w4 ⟨rfl, hJ4, hk4⟩
        have hbx4 := HB.out.kept hk4.1
        have c4 := hbx4.cell (j := 0) rfl
        have f4 := hbx4.fz 0
        have HJ4 := Lib.hid hJ4
        have HB4 := Lib.hid hbx4
        clear hk4 hJ4 hbx4 HB HJ2
        gi_wp2_with fail
        go_roundw
        case rel =>
          refine ⟨pre ++ [r], ByteArray.empty, rc', hJs _ _ _ HJ4.out, ?_, H6'.out, by simp, HB4.out.set (j := 0) (by simp) _⟩
          rw [HR.out, H1.out]; simp
        case measure =>
          rw [boxLen_of (HB4.out.set (j := 0) (by simp) (.string (ByteArray.empty))), boxLen_of HBB.out]
          have := HLT.out; show 0 < _; omega
      · rw [q1] at hix
        have HIX := Lib.hid hix
        have s1 : IntKind.i64.wrap ((k : Int) - 1 + 1) = k := by rw [IntWalk.i64_in _ (by omega)]; omega
        have e0 : ((k : Int) == 0) = false := by rw [beq_eq_false_iff_ne]; have := H2.out; omega
        have e1 : (k = 0) = False := eq_false (by have := H2.out; omega)
        clear q1 hix
        gi_wp2_with fail
        refine ⟨trivial, (fun h => by cases h), (callsIn_wide.2 (HIX.out _)).mono ?_⟩
        rintro e w3 ⟨rfl, rfl⟩
        gi_wp2_with fail
        refine ⟨(fun h => by cases h), hR.mono ?_⟩
        clear hR hy
        rintro e w4 ⟨rfl, hJ4, hk4⟩
        have hbx4 := HB.out.kept hk4.1
        have c4 := hbx4.cell (j := 0) rfl
        have f4 := hbx4.fz 0
        have HJ4 := Lib.hid hJ4
        have HB4 := Lib.hid hbx4
        clear hk4 hJ4 hbx4 HB HJ2
        gi_wp2_with fail
        go_roundw
        case rel =>
          refine ⟨pre ++ [r], t.extract k t.size, rc', hJs _ _ _ HJ4.out, ?_, H6.out, by omega, HB4.out.set (j := 0) (by simp) _⟩
          rw [HR.out, H1.out]; simp
        case measure =>
          rw [boxLen_of (HB4.out.set (j := 0) (by simp) (.string (t.extract k t.size))), boxLen_of HBB.out]
          have := H2.out; have := HLT.out; omega
    · have d1 : decide ((0 : Int) < (t.size : Int)) = false := decide_eq_false (by omega)
      have d2 : (0 < t.size) = False := eq_false hlt
      have hnil := no_row hc hlt
      subst hnil
      have HR := Lib.hid hr
      have HJ2 := Lib.hid hj
      clear hr hj hc hbx hlt
      gi_wp2_with fail
      go_end0
      refine ⟨⟨_, rfl⟩, ?_⟩
      rw [HR.out]
      simp only [rowsC, rowsA, if_true, List.append_nil]
      exact HJ2.out
end
end Go.Proofs.YtcfdalmllegefaaGreatDoor
