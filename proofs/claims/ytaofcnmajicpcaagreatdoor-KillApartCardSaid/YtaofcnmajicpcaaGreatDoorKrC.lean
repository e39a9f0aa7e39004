/- Plain: the document's way to take the first character of a string (copyistref01.point) finds one exactly where the decoder does; so the two notions of a valid string agree. -/
import Derived.Lib.ValidLaws
namespace Go.Proofs.YtaofcnmajicpcaaGreatDoor
set_option linter.unusedVariables false

def tlN (n i b : Nat) : Prop := i < n ∧ 128 ≤ b ∧ b < 192
instance tlN.dec (n i b : Nat) : Decidable (tlN n i b) := by unfold tlN; infer_instance
def isN (c : Nat) : Prop := c ≤ 1114111 ∧ (c < 55296 ∨ 57343 < c)
instance isN.dec (c : Nat) : Decidable (isN c) := by unfold isN; infer_instance
def c2N (b0 b1 : Nat) : Nat := (b0 - 192) * 64 + b1 - 128
def c3N (b0 b1 b2 : Nat) : Nat := ((b0 - 224) * 64 + b1 - 128) * 64 + b2 - 128
def c4N (b0 b1 b2 b3 : Nat) : Nat := (((b0 - 240) * 64 + b1 - 128) * 64 + b2 - 128) * 64 + b3 - 128
/-- The first character and its length in bytes; length 0: none. -/
def ptN (n b0 b1 b2 b3 : Nat) : Nat × Nat :=
  if b0 < 128 then (b0, 1)
  else if (194 ≤ b0 ∧ b0 < 224) ∧ tlN n 1 b1 then (c2N b0 b1, 2)
  else if (224 ≤ b0 ∧ b0 < 240) ∧ tlN n 1 b1 ∧ tlN n 2 b2 then (if 2048 ≤ c3N b0 b1 b2 ∧ isN (c3N b0 b1 b2) then (c3N b0 b1 b2, 3) else (0, 0))
  else if (240 ≤ b0 ∧ b0 < 245) ∧ tlN n 1 b1 ∧ tlN n 2 b2 ∧ tlN n 3 b3 then (if 65536 ≤ c4N b0 b1 b2 b3 ∧ isN (c4N b0 b1 b2 b3) then (c4N b0 b1 b2 b3, 4) else (0, 0))
  else (0, 0)
set_option maxHeartbeats 4000000 in
set_option maxRecDepth 100000 in
theorem ptN_decode (n b0 b1 b2 b3 : Nat) (h0 : b0 < 256) (h1 : b1 < 256) (h2 : b2 < 256) (h3 : b3 < 256) :
    (ptN n b0 b1 b2 b3 = (0, 0) ∧ Lib.decodeN n b0 b1 b2 b3 = (65533, 1)) ∨ (0 < (ptN n b0 b1 b2 b3).2 ∧ ptN n b0 b1 b2 b3 = Lib.decodeN n b0 b1 b2 b3 ∧ ¬ ((Lib.decodeN n b0 b1 b2 b3).1 = 65533 ∧ (Lib.decodeN n b0 b1 b2 b3).2 = 1)) := by
  unfold ptN Lib.decodeN tlN isN c2N c3N c4N
  by_cases a0 : b0 < 128
  · rw [if_pos a0, if_pos a0]
    right
    refine ⟨by simp, rfl, ?_⟩
    simp; omega
  rw [if_neg a0, if_neg a0]
  by_cases a1 : b0 / 32 = 6 ∧ (1 < n ∧ b1 / 64 = 2)
  · rw [if_pos a1]
    by_cases a2 : b0 % 32 * 64 + b1 % 64 ≥ 128
    · rw [if_pos a2, if_pos (by omega)]
      right
      exact ⟨by simp, by rw [Prod.mk.injEq]; omega, by simp⟩
    · rw [if_neg a2, if_neg (by omega), if_neg (by omega), if_neg (by omega)]
      exact .inl ⟨rfl, rfl⟩
  rw [if_neg a1, if_neg (by omega)]
  by_cases a3 : b0 / 16 = 14 ∧ (1 < n ∧ b1 / 64 = 2) ∧ (2 < n ∧ b2 / 64 = 2)
  · rw [if_pos a3, if_pos (by omega)]
    have ec : ((b0 - 224) * 64 + b1 - 128) * 64 + b2 - 128 = b0 % 16 * 4096 + b1 % 64 * 64 + b2 % 64 := by omega
    rw [ec]
    split
    · rename_i h
      rw [if_pos (by omega)]
      exact .inr ⟨by simp, rfl, by simp⟩
    · rename_i h
      rw [if_neg (by omega)]
      exact .inl ⟨rfl, rfl⟩
  rw [if_neg a3, if_neg (by omega)]
  by_cases a4 : b0 / 8 = 30 ∧ (1 < n ∧ b1 / 64 = 2) ∧ (2 < n ∧ b2 / 64 = 2) ∧ (3 < n ∧ b3 / 64 = 2)
  · rw [if_pos a4]
    by_cases a5 : b0 < 245
    · rw [if_pos (by omega)]
      have ec : (((b0 - 240) * 64 + b1 - 128) * 64 + b2 - 128) * 64 + b3 - 128 = b0 % 8 * 262144 + b1 % 64 * 4096 + b2 % 64 * 64 + b3 % 64 := by omega
      rw [ec]
      split
      · rename_i h
        rw [if_pos (by omega)]
        exact .inr ⟨by simp, rfl, by simp⟩
      · rename_i h
        rw [if_neg (by omega)]
        exact .inl ⟨rfl, rfl⟩
    · rw [if_neg (by omega), if_neg (by omega)]
      exact .inl ⟨rfl, rfl⟩
  · rw [if_neg a4, if_neg (by omega)]
    exact .inl ⟨rfl, rfl⟩

def bAt (l : List UInt8) (i : Nat) : Nat := (l.getD i 0).toNat
theorem bAt_lt (l : List UInt8) (i : Nat) : bAt l i < 256 := (l.getD i 0).toNat_lt
/-- The first character of a string, and its length. -/
def ptL (l : List UInt8) : Nat × Nat := ptN l.length (bAt l 0) (bAt l 1) (bAt l 2) (bAt l 3)
theorem ptL_bound (l : List UInt8) (h : l ≠ []) : (ptL l).2 ≤ l.length ∧ (ptL l).2 ≤ 4 ∧ (ptL l).1 ≤ 1114111 := by
  have hl : 0 < l.length := List.length_pos_iff.2 h
  unfold ptL ptN
  generalize bAt l 0 = b0
  generalize bAt l 1 = b1
  generalize bAt l 2 = b2
  generalize bAt l 3 = b3
  by_cases a0 : b0 < 128
  · rw [if_pos a0]; exact ⟨hl, by omega, by show b0 ≤ _; omega⟩
  rw [if_neg a0]
  by_cases a1 : (194 ≤ b0 ∧ b0 < 224) ∧ tlN l.length 1 b1
  · rw [if_pos a1]
    exact ⟨a1.2.1, by omega, by show c2N b0 b1 ≤ _; unfold c2N; have := a1.2.2; omega⟩
  rw [if_neg a1]
  by_cases a2 : (224 ≤ b0 ∧ b0 < 240) ∧ tlN l.length 1 b1 ∧ tlN l.length 2 b2
  · rw [if_pos a2]
    by_cases a3 : 2048 ≤ c3N b0 b1 b2 ∧ isN (c3N b0 b1 b2)
    · rw [if_pos a3]; exact ⟨a2.2.2.1, by show 3 ≤ 4; omega, a3.2.1⟩
    · rw [if_neg a3]; exact ⟨Nat.zero_le _, Nat.zero_le _, Nat.zero_le _⟩
  rw [if_neg a2]
  by_cases a4 : (240 ≤ b0 ∧ b0 < 245) ∧ tlN l.length 1 b1 ∧ tlN l.length 2 b2 ∧ tlN l.length 3 b3
  · rw [if_pos a4]
    by_cases a5 : 65536 ≤ c4N b0 b1 b2 b3 ∧ isN (c4N b0 b1 b2 b3)
    · rw [if_pos a5]; exact ⟨a4.2.2.2.1, Nat.le_refl _, a5.2.1⟩
    · rw [if_neg a5]; exact ⟨Nat.zero_le _, Nat.zero_le _, Nat.zero_le _⟩
  · rw [if_neg a4]; exact ⟨Nat.zero_le _, Nat.zero_le _, Nat.zero_le _⟩
/-- The characters of a string; none if the string is not valid. -/
def chars : Nat → List UInt8 → Option (List Nat)
  | 0, _ => some []
  | n + 1, l => if l = [] then some [] else if (ptL l).2 = 0 then none else (chars n (l.drop (ptL l).2)).map ((ptL l).1 :: ·)
theorem chars_nil : ∀ n, chars n [] = some []
  | 0 => rfl
  | _ + 1 => by simp [chars]
theorem chars_fuel : ∀ (n m : Nat) (l : List UInt8), l.length ≤ n → l.length ≤ m → chars n l = chars m l
  | 0, m, l, hn, _ => by
    have : l = [] := List.eq_nil_of_length_eq_zero (by omega)
    subst this; rw [chars_nil, chars_nil]
  | n + 1, 0, l, _, hm => by
    have : l = [] := List.eq_nil_of_length_eq_zero (by omega)
    subst this; rw [chars_nil, chars_nil]
  | n + 1, m + 1, l, hn, hm => by
    unfold chars
    by_cases hne : l = []
    · simp [hne]
    · have hl : 0 < l.length := List.length_pos_iff.2 hne
      rw [if_neg hne, if_neg hne]
      by_cases h0 : (ptL l).2 = 0
      · rw [if_pos h0, if_pos h0]
      · rw [if_neg h0, if_neg h0, chars_fuel n m (l.drop (ptL l).2) (by rw [List.length_drop]; omega) (by rw [List.length_drop]; omega)]
def charsD (l : List UInt8) : Option (List Nat) := chars l.length l
theorem charsD_nil : charsD [] = some [] := rfl
theorem charsD_step (l : List UInt8) (hne : l ≠ []) : charsD l = if (ptL l).2 = 0 then none else (charsD (l.drop (ptL l).2)).map ((ptL l).1 :: ·) := by
  have hl : 0 < l.length := List.length_pos_iff.2 hne
  obtain ⟨n, hn⟩ : ∃ n, l.length = n + 1 := ⟨l.length - 1, by omega⟩
  have e : charsD l = chars (n + 1) l := by unfold charsD; rw [hn]
  rw [e]
  show (if l = [] then some [] else _) = _
  rw [if_neg hne]
  by_cases h0 : (ptL l).2 = 0
  · rw [if_pos h0, if_pos h0]
  · rw [if_neg h0, if_neg h0]
    unfold charsD
    rw [chars_fuel n (l.drop (ptL l).2).length _ (by rw [List.length_drop]; omega) (Nat.le_refl _)]
theorem ptL_decode (l : List UInt8) : (ptL l = (0, 0) ∧ Lib.decodeL l = (65533, 1)) ∨ (0 < (ptL l).2 ∧ ptL l = Lib.decodeL l ∧ ¬ ((Lib.decodeL l).1 = 65533 ∧ (Lib.decodeL l).2 = 1)) := by
  rw [Lib.decodeL_N]
  exact ptN_decode _ _ _ _ _ (bAt_lt l 0) (bAt_lt l 1) (bAt_lt l 2) (bAt_lt l 3)
/-- The two notions of a valid string agree. -/
theorem chars_valid : ∀ (n : Nat) (l : List UInt8), l.length ≤ n → (charsD l).isSome = Lib.validD l
  | 0, l, hn => by
    have : l = [] := List.eq_nil_of_length_eq_zero (by omega)
    subst this; rfl
  | n + 1, l, hn => by
    by_cases hne : l = []
    · subst hne; rfl
    · have hl : 0 < l.length := List.length_pos_iff.2 hne
      rw [charsD_step l hne, Lib.validD_step l hne]
      rcases ptL_decode l with ⟨h1, h2⟩ | ⟨h1, h2, h3⟩
      · rw [h1, h2]; rfl
      · rw [if_neg (by omega), if_neg h3, ← h2, Option.isSome_map]
        exact chars_valid n _ (by rw [List.length_drop]; omega)
theorem chars_len : ∀ (n : Nat) (l : List UInt8) (cs : List Nat), l.length ≤ n → charsD l = some cs → cs.length ≤ l.length
  | 0, l, cs, hn, h => by
    have : l = [] := List.eq_nil_of_length_eq_zero (by omega)
    subst this
    rw [charsD_nil] at h; cases h; simp
  | n + 1, l, cs, hn, h => by
    by_cases hne : l = []
    · subst hne; rw [charsD_nil] at h; cases h; simp
    · have hl : 0 < l.length := List.length_pos_iff.2 hne
      rw [charsD_step l hne] at h
      by_cases h0 : (ptL l).2 = 0
      · rw [if_pos h0] at h; cases h
      · rw [if_neg h0] at h
        cases hc : charsD (l.drop (ptL l).2) with
        | none => rw [hc] at h; cases h
        | some t =>
          rw [hc] at h
          cases h
          have := chars_len n (l.drop (ptL l).2) t (by rw [List.length_drop]; omega) hc
          rw [List.length_drop] at this
          simp only [List.length_cons]; omega
end Go.Proofs.YtaofcnmajicpcaaGreatDoor
