import Derived.Lib.ValidLaws
import Derived.Laws.Cover4
import Derived.Lib.MapLaws
import Derived.Lib.TrimUEq
import Derived.Test.YtobnmpgfkgoapaaGreatDoorProg
import Derived.Test.YtobnmpgfkgoapaaGreatDoorZ00
import Derived.Test.YtobnmpgfkgoapaaGreatDoorZ01
import Derived.IntWalk
import Derived.Lib.SliceRun
import Derived.BigRegion
import Derived.RegionTactic
import Derived.ChangeAlike
import Derived.Laws.IdiomCopy
import Derived.Laws.MakeOwn
/- Plain: the document's way to take the first character of a string (copyistref01.point) finds one exactly where the decoder does; so the two notions of a valid string agree. -/
namespace Go.Proofs.YtobnmpgfkgoapaaGreatDoor
set_option linter.unusedVariables false

def tlN (n i b : Nat) : Prop := i < n ∧ 128 ≤ b ∧ b < 192
instance tlN.dec (n i b : Nat) : Decidable (tlN n i b) := by unfold tlN; infer_instance
def isN (c : Nat) : Prop := c ≤ 1114111 ∧ (c < 55296 ∨ 57343 < c)
instance isN.dec (c : Nat) : Decidable (isN c) := by unfold isN; infer_instance
def c2N (b0 b1 : Nat) : Nat := (b0 - 192) * 64 + b1 - 128
def c3N (b0 b1 b2 : Nat) : Nat := ((b0 - 224) * 64 + b1 - 128) * 64 + b2 - 128
def c4N (b0 b1 b2 b3 : Nat) : Nat := (((b0 - 240) * 64 + b1 - 128) * 64 + b2 - 128) * 64 + b3 - 128
/-- The first character and its length in bytes; length 0: none. -/
def ptN (n b0 b1 b2 b3 : Nat) : Nat × Nat :=
  if b0 < 128 then (b0, 1)
  else if (194 ≤ b0 ∧ b0 < 224) ∧ tlN n 1 b1 then (c2N b0 b1, 2)
  else if (224 ≤ b0 ∧ b0 < 240) ∧ tlN n 1 b1 ∧ tlN n 2 b2 then (if 2048 ≤ c3N b0 b1 b2 ∧ isN (c3N b0 b1 b2) then (c3N b0 b1 b2, 3) else (0, 0))
  else if (240 ≤ b0 ∧ b0 < 245) ∧ tlN n 1 b1 ∧ tlN n 2 b2 ∧ tlN n 3 b3 then (if 65536 ≤ c4N b0 b1 b2 b3 ∧ isN (c4N b0 b1 b2 b3) then (c4N b0 b1 b2 b3, 4) else (0, 0))
  else (0, 0)
set_option maxHeartbeats 4000000 in
set_option maxRecDepth 100000 in
theorem ptN_decode (n b0 b1 b2 b3 : Nat) (h0 : b0 < 256) (h1 : b1 < 256) (h2 : b2 < 256) (h3 : b3 < 256) :
    (ptN n b0 b1 b2 b3 = (0, 0) ∧ Lib.decodeN n b0 b1 b2 b3 = (65533, 1)) ∨ (0 < (ptN n b0 b1 b2 b3).2 ∧ ptN n b0 b1 b2 b3 = Lib.decodeN n b0 b1 b2 b3 ∧ ¬ ((Lib.decodeN n b0 b1 b2 b3).1 = 65533 ∧ (Lib.decodeN n b0 b1 b2 b3).2 = 1)) := by
  unfold ptN Lib.decodeN tlN isN c2N c3N c4N
  by_cases a0 : b0 < 128
  · rw [if_pos a0, if_pos a0]
    right
    refine ⟨by simp, rfl, ?_⟩
    simp; omega
  rw [if_neg a0, if_neg a0]
  by_cases a1 : b0 / 32 = 6 ∧ (1 < n ∧ b1 / 64 = 2)
  · rw [if_pos a1]
    by_cases a2 : b0 % 32 * 64 + b1 % 64 ≥ 128
    · rw [if_pos a2, if_pos (by omega)]
      right
      exact ⟨by simp, by rw [Prod.mk.injEq]; omega, by simp⟩
    · rw [if_neg a2, if_neg (by omega), if_neg (by omega), if_neg (by omega)]
      exact .inl ⟨rfl, rfl⟩
  rw [if_neg a1, if_neg (by omega)]
  by_cases a3 : b0 / 16 = 14 ∧ (1 < n ∧ b1 / 64 = 2) ∧ (2 < n ∧ b2 / 64 = 2)
  · rw [if_pos a3, if_pos (by omega)]
    have ec : ((b0 - 224) * 64 + b1 - 128) * 64 + b2 - 128 = b0 % 16 * 4096 + b1 % 64 * 64 + b2 % 64 := by omega
    rw [ec]
    split
    · rename_i h
      rw [if_pos (by omega)]
      exact .inr ⟨by simp, rfl, by simp⟩
    · rename_i h
      rw [if_neg (by omega)]
      exact .inl ⟨rfl, rfl⟩
  rw [if_neg a3, if_neg (by omega)]
  by_cases a4 : b0 / 8 = 30 ∧ (1 < n ∧ b1 / 64 = 2) ∧ (2 < n ∧ b2 / 64 = 2) ∧ (3 < n ∧ b3 / 64 = 2)
  · rw [if_pos a4]
    by_cases a5 : b0 < 245
    · rw [if_pos (by omega)]
      have ec : (((b0 - 240) * 64 + b1 - 128) * 64 + b2 - 128) * 64 + b3 - 128 = b0 % 8 * 262144 + b1 % 64 * 4096 + b2 % 64 * 64 + b3 % 64 := by omega
      rw [ec]
      split
      · rename_i h
        rw [if_pos (by omega)]
        exact .inr ⟨by simp, rfl, by simp⟩
      · rename_i h
        rw [if_neg (by omega)]
        exact .inl ⟨rfl, rfl⟩
    · rw [if_neg (by omega), if_neg (by omega)]
      exact .inl ⟨rfl, rfl⟩
  · rw [if_neg a4, if_neg (by omega)]
    exact .inl ⟨rfl, rfl⟩

def bAt (l : List UInt8) (i : Nat) : Nat := (l.getD i 0).toNat
theorem bAt_lt (l : List UInt8) (i : Nat) : bAt l i < 256 := (l.getD i 0).toNat_lt
/-- The first character of a string, and its length. -/
def ptL (l : List UInt8) : Nat × Nat := ptN l.length (bAt l 0) (bAt l 1) (bAt l 2) (bAt l 3)
theorem ptL_bound (l : List UInt8) (h : l ≠ []) : (ptL l).2 ≤ l.length ∧ (ptL l).2 ≤ 4 ∧ (ptL l).1 ≤ 1114111 := by
  have hl : 0 < l.length := List.length_pos_iff.2 h
  unfold ptL ptN
  generalize bAt l 0 = b0
  generalize bAt l 1 = b1
  generalize bAt l 2 = b2
  generalize bAt l 3 = b3
  by_cases a0 : b0 < 128
  · rw [if_pos a0]; exact ⟨hl, by omega, by show b0 ≤ _; omega⟩
  rw [if_neg a0]
  by_cases a1 : (194 ≤ b0 ∧ b0 < 224) ∧ tlN l.length 1 b1
  · rw [if_pos a1]
    exact ⟨a1.2.1, by omega, by show c2N b0 b1 ≤ _; unfold c2N; have := a1.2.2; omega⟩
  rw [if_neg a1]
  by_cases a2 : (224 ≤ b0 ∧ b0 < 240) ∧ tlN l.length 1 b1 ∧ tlN l.length 2 b2
  · rw [if_pos a2]
    by_cases a3 : 2048 ≤ c3N b0 b1 b2 ∧ isN (c3N b0 b1 b2)
    · rw [if_pos a3]; exact ⟨a2.2.2.1, by show 3 ≤ 4; omega, a3.2.1⟩
    · rw [if_neg a3]; exact ⟨Nat.zero_le _, Nat.zero_le _, Nat.zero_le _⟩
  rw [if_neg a2]
  by_cases a4 : (240 ≤ b0 ∧ b0 < 245) ∧ tlN l.length 1 b1 ∧ tlN l.length 2 b2 ∧ tlN l.length 3 b3
  · rw [if_pos a4]
    by_cases a5 : 65536 ≤ c4N b0 b1 b2 b3 ∧ isN (c4N b0 b1 b2 b3)
    · rw [if_pos a5]; exact ⟨a4.2.2.2.1, Nat.le_refl _, a5.2.1⟩
    · rw [if_neg a5]; exact ⟨Nat.zero_le _, Nat.zero_le _, Nat.zero_le _⟩
  · rw [if_neg a4]; exact ⟨Nat.zero_le _, Nat.zero_le _, Nat.zero_le _⟩
/-- The characters of a string; none if the string is not valid. -/
def chars : Nat → List UInt8 → Option (List Nat)
  | 0, _ => some []
  | n + 1, l => if l = [] then some [] else if (ptL l).2 = 0 then none else (chars n (l.drop (ptL l).2)).map ((ptL l).1 :: ·)
theorem chars_nil : ∀ n, chars n [] = some []
  | 0 => rfl
  | _ + 1 => by simp [chars]
theorem chars_fuel : ∀ (n m : Nat) (l : List UInt8), l.length ≤ n → l.length ≤ m → chars n l = chars m l
  | 0, m, l, hn, _ => by
    have : l = [] := List.eq_nil_of_length_eq_zero (by omega)
    subst this; rw [chars_nil, chars_nil]
  | n + 1, 0, l, _, hm => by
    have : l = [] := List.eq_nil_of_length_eq_zero (by omega)
    subst this; rw [chars_nil, chars_nil]
  | n + 1, m + 1, l, hn, hm => by
    unfold chars
    by_cases hne : l = []
    · simp [hne]
    · have hl : 0 < l.length := List.length_pos_iff.2 hne
      rw [if_neg hne, if_neg hne]
      by_cases h0 : (ptL l).2 = 0
      · rw [if_pos h0, if_pos h0]
      · rw [if_neg h0, if_neg h0, chars_fuel n m (l.drop (ptL l).2) (by rw [List.length_drop]; omega) (by rw [List.length_drop]; omega)]
def charsD (l : List UInt8) : Option (List Nat) := chars l.length l
theorem charsD_nil : charsD [] = some [] := rfl
theorem charsD_step (l : List UInt8) (hne : l ≠ []) : charsD l = if (ptL l).2 = 0 then none else (charsD (l.drop (ptL l).2)).map ((ptL l).1 :: ·) := by
  have hl : 0 < l.length := List.length_pos_iff.2 hne
  obtain ⟨n, hn⟩ : ∃ n, l.length = n + 1 := ⟨l.length - 1, by omega⟩
  have e : charsD l = chars (n + 1) l := by unfold charsD; rw [hn]
  rw [e]
  show (if l = [] then some [] else _) = _
  rw [if_neg hne]
  by_cases h0 : (ptL l).2 = 0
  · rw [if_pos h0, if_pos h0]
  · rw [if_neg h0, if_neg h0]
    unfold charsD
    rw [chars_fuel n (l.drop (ptL l).2).length _ (by rw [List.length_drop]; omega) (Nat.le_refl _)]
theorem ptL_decode (l : List UInt8) : (ptL l = (0, 0) ∧ Lib.decodeL l = (65533, 1)) ∨ (0 < (ptL l).2 ∧ ptL l = Lib.decodeL l ∧ ¬ ((Lib.decodeL l).1 = 65533 ∧ (Lib.decodeL l).2 = 1)) := by
  rw [Lib.decodeL_N]
  exact ptN_decode _ _ _ _ _ (bAt_lt l 0) (bAt_lt l 1) (bAt_lt l 2) (bAt_lt l 3)
/-- The two notions of a valid string agree. -/
theorem chars_valid : ∀ (n : Nat) (l : List UInt8), l.length ≤ n → (charsD l).isSome = Lib.validD l
  | 0, l, hn => by
    have : l = [] := List.eq_nil_of_length_eq_zero (by omega)
    subst this; rfl
  | n + 1, l, hn => by
    by_cases hne : l = []
    · subst hne; rfl
    · have hl : 0 < l.length := List.length_pos_iff.2 hne
      rw [charsD_step l hne, Lib.validD_step l hne]
      rcases ptL_decode l with ⟨h1, h2⟩ | ⟨h1, h2, h3⟩
      · rw [h1, h2]; rfl
      · rw [if_neg (by omega), if_neg h3, ← h2, Option.isSome_map]
        exact chars_valid n _ (by rw [List.length_drop]; omega)
theorem chars_len : ∀ (n : Nat) (l : List UInt8) (cs : List Nat), l.length ≤ n → charsD l = some cs → cs.length ≤ l.length
  | 0, l, cs, hn, h => by
    have : l = [] := List.eq_nil_of_length_eq_zero (by omega)
    subst this
    rw [charsD_nil] at h; cases h; simp
  | n + 1, l, cs, hn, h => by
    by_cases hne : l = []
    · subst hne; rw [charsD_nil] at h; cases h; simp
    · have hl : 0 < l.length := List.length_pos_iff.2 hne
      rw [charsD_step l hne] at h
      by_cases h0 : (ptL l).2 = 0
      · rw [if_pos h0] at h; cases h
      · rw [if_neg h0] at h
        cases hc : charsD (l.drop (ptL l).2) with
        | none => rw [hc] at h; cases h
        | some t =>
          rw [hc] at h
          cases h
          have := chars_len n (l.drop (ptL l).2) t (by rw [List.length_drop]; omega) hc
          rw [List.length_drop] at this
          simp only [List.length_cons]; omega
end Go.Proofs.YtobnmpgfkgoapaaGreatDoor
/- Characters and their bytes: plain laws. -/
namespace Go.Proofs.YtobnmpgfkgoapaaGreatDoor
set_option linter.unusedVariables false
set_option linter.unusedSimpArgs false
/-- The bytes of characters, one behind the other. -/
def encL (cs : List Nat) : List UInt8 := cs.flatMap fun c : Nat => (Utf8.encode (c : Int)).data.toList
def encS (cs : List Nat) : ByteArray := runesBytes (cs.map fun c : Nat => (c : Int))
theorem encL_nil : encL [] = [] := rfl
theorem encL_cons (c : Nat) (cs : List Nat) : encL (c :: cs) = (Utf8.encode (c : Int)).data.toList ++ encL cs := rfl
theorem encL_append (a b : List Nat) : encL (a ++ b) = encL a ++ encL b := by unfold encL; rw [List.flatMap_append]
theorem runes_fold : ∀ (cs : List Nat) (s : ByteArray), ((cs.map fun c : Nat => (c : Int)).foldl (fun r n => r ++ Utf8.encode n) s).data.toList = s.data.toList ++ encL cs
  | [], s => by simp [encL]
  | c :: cs, s => by
    rw [List.map_cons, List.foldl_cons, runes_fold cs, encL_cons, ← List.append_assoc]
    simp
theorem encS_list (cs : List Nat) : (encS cs).data.toList = encL cs := by
  unfold encS runesBytes
  rw [runes_fold]; rfl
theorem bytes_ext {s t : ByteArray} (h : s.data.toList = t.data.toList) : s = t := by
  obtain ⟨a⟩ := s
  obtain ⟨b⟩ := t
  simp only [Array.toList_inj] at h
  rw [h]
theorem encS_append (a b : List Nat) : encS a ++ encS b = encS (a ++ b) := bytes_ext (by
  rw [encS_list, encL_append, ← encS_list, ← encS_list]; simp)
theorem encS_nil : encS [] = ByteArray.empty := rfl
theorem valid_isN {c : Nat} (h : isN c) : Utf8.valid (c : Int) = true := by
  unfold isN at h
  simp [Utf8.valid]; omega
theorem enc1 {c : Nat} (h : isN c) (h1 : c < 128) : (Utf8.encode (c : Int)).data.toList = [UInt8.ofNat c] := by
  simp [Utf8.encode, valid_isN h, h1]
theorem enc2 {c : Nat} (h : isN c) (h1 : ¬ c < 128) (h2 : c < 2048) : (Utf8.encode (c : Int)).data.toList = [UInt8.ofNat (192 + c / 64), UInt8.ofNat (128 + c % 64)] := by
  simp [Utf8.encode, valid_isN h, h1, h2]
theorem enc3 {c : Nat} (h : isN c) (h1 : ¬ c < 128) (h2 : ¬ c < 2048) (h3 : c < 65536) : (Utf8.encode (c : Int)).data.toList = [UInt8.ofNat (224 + c / 4096), UInt8.ofNat (128 + c / 64 % 64), UInt8.ofNat (128 + c % 64)] := by
  simp [Utf8.encode, valid_isN h, h1, h2, h3]
theorem enc4 {c : Nat} (h : isN c) (h1 : ¬ c < 128) (h2 : ¬ c < 2048) (h3 : ¬ c < 65536) : (Utf8.encode (c : Int)).data.toList = [UInt8.ofNat (240 + c / 262144), UInt8.ofNat (128 + c / 4096 % 64), UInt8.ofNat (128 + c / 64 % 64), UInt8.ofNat (128 + c % 64)] := by
  simp [Utf8.encode, valid_isN h, h1, h2, h3]
theorem un8 (n : Nat) (h : n < 256) : (UInt8.ofNat n).toNat = n := by rw [UInt8.toNat_ofNat']; omega
/-- What an encoded character decodes to. -/
theorem dec_enc {c : Nat} (h : isN c) (rest : List UInt8) : Lib.decodeL ((Utf8.encode (c : Int)).data.toList ++ rest) = (c, (Utf8.encode (c : Int)).data.toList.length) ∧ 0 < (Utf8.encode (c : Int)).data.toList.length ∧ ¬ (c = 65533 ∧ (Utf8.encode (c : Int)).data.toList.length = 1) := by
  have hb := h
  unfold isN at hb
  rw [Lib.decodeL_N]
  by_cases h1 : c < 128
  · rw [enc1 h h1]
    refine ⟨?_, by simp, by simp; omega⟩
    simp only [List.cons_append, List.nil_append, List.getD_cons_zero, un8 c (by omega)]
    unfold Lib.decodeN
    rw [if_pos h1]; rfl
  · by_cases h2 : c < 2048
    · rw [enc2 h h1 h2]
      refine ⟨?_, by simp, by simp⟩
      simp only [List.cons_append, List.nil_append, List.getD_cons_zero, List.getD_cons_succ, un8 (192 + c / 64) (by omega), un8 (128 + c % 64) (by omega), List.length_cons]
      unfold Lib.decodeN
      rw [if_neg (by omega), if_pos (by omega), if_pos (by omega)]
      rw [Prod.mk.injEq]; exact ⟨by omega, rfl⟩
    · by_cases h3 : c < 65536
      · rw [enc3 h h1 h2 h3]
        refine ⟨?_, by simp, by simp⟩
        simp only [List.cons_append, List.nil_append, List.getD_cons_zero, List.getD_cons_succ, un8 (224 + c / 4096) (by omega), un8 (128 + c / 64 % 64) (by omega), un8 (128 + c % 64) (by omega), List.length_cons]
        unfold Lib.decodeN
        rw [if_neg (by omega), if_neg (by omega), if_pos (by omega), if_pos (by omega)]
        rw [Prod.mk.injEq]; exact ⟨by omega, rfl⟩
      · rw [enc4 h h1 h2 h3]
        refine ⟨?_, by simp, by simp⟩
        simp only [List.cons_append, List.nil_append, List.getD_cons_zero, List.getD_cons_succ, un8 (240 + c / 262144) (by omega), un8 (128 + c / 4096 % 64) (by omega), un8 (128 + c / 64 % 64) (by omega), un8 (128 + c % 64) (by omega), List.length_cons]
        unfold Lib.decodeN
        rw [if_neg (by omega), if_neg (by omega), if_neg (by omega), if_pos (by omega), if_pos (by omega)]
        rw [Prod.mk.injEq]; exact ⟨by omega, rfl⟩
theorem pt_enc {c : Nat} (h : isN c) (rest : List UInt8) : ptL ((Utf8.encode (c : Int)).data.toList ++ rest) = (c, (Utf8.encode (c : Int)).data.toList.length) := by
  obtain ⟨h1, h2, h3⟩ := dec_enc h rest
  rcases ptL_decode ((Utf8.encode (c : Int)).data.toList ++ rest) with ⟨_, g⟩ | ⟨_, g, _⟩
  · rw [h1, Prod.mk.injEq] at g; exact absurd g h3
  · rw [g, h1]
theorem enc_ne {c : Nat} (h : isN c) (rest : List UInt8) : (Utf8.encode (c : Int)).data.toList ++ rest ≠ [] := by
  have := (dec_enc h rest).2.1
  intro e
  rw [List.append_eq_nil_iff] at e
  rw [e.1] at this; simp at this
/-- Characters are what their bytes decode to. -/
theorem chars_enc : ∀ cs : List Nat, (∀ c ∈ cs, isN c) → charsD (encL cs) = some cs
  | [], _ => rfl
  | c :: cs, h => by
    have hc := h c (by simp)
    rw [encL_cons, charsD_step _ (enc_ne hc _), pt_enc hc, if_neg (by have := (dec_enc hc []).2.1; simp only; omega)]
    simp only [List.drop_left']
    rw [chars_enc cs fun d hd => h d (by simp [hd])]; rfl
set_option maxRecDepth 100000 in
theorem ptL_isN (l : List UInt8) (h : 0 < (ptL l).2) : isN (ptL l).1 := by
  unfold ptL ptN at h ⊢
  generalize bAt l 0 = b0 at *
  generalize bAt l 1 = b1 at *
  generalize bAt l 2 = b2 at *
  generalize bAt l 3 = b3 at *
  by_cases a1 : b0 < 128
  · rw [if_pos a1]; unfold isN; simp only; omega
  · rw [if_neg a1] at h ⊢
    by_cases a2 : (194 ≤ b0 ∧ b0 < 224) ∧ tlN l.length 1 b1
    · rw [if_pos a2]; unfold isN c2N; unfold tlN at a2; simp only; clear h; omega
    · rw [if_neg a2] at h ⊢
      by_cases a3 : (224 ≤ b0 ∧ b0 < 240) ∧ tlN l.length 1 b1 ∧ tlN l.length 2 b2
      · rw [if_pos a3] at h ⊢
        by_cases a4 : 2048 ≤ c3N b0 b1 b2 ∧ isN (c3N b0 b1 b2)
        · rw [if_pos a4]; exact a4.2
        · rw [if_neg a4] at h; simp at h
      · rw [if_neg a3] at h ⊢
        by_cases a4 : (240 ≤ b0 ∧ b0 < 245) ∧ tlN l.length 1 b1 ∧ tlN l.length 2 b2 ∧ tlN l.length 3 b3
        · rw [if_pos a4] at h ⊢
          by_cases a5 : 65536 ≤ c4N b0 b1 b2 b3 ∧ isN (c4N b0 b1 b2 b3)
          · rw [if_pos a5]; exact a5.2
          · rw [if_neg a5] at h; simp at h
        · rw [if_neg a4] at h; simp at h
theorem encR_eq {c : Nat} (h : isN c) : Lib.encodeRune (c : Int) = (Utf8.encode (c : Int)).data.toList := by
  have hb := h
  unfold isN at hb
  unfold Lib.encodeRune
  by_cases h1 : c < 128
  · rw [enc1 h h1, Lib.encodeRuneZ_one (by omega) (by omega)]; rfl
  · by_cases h2 : c < 2048
    · rw [enc2 h h1 h2, Lib.encodeRuneZ_two (by omega) (by omega)]
      simp only [List.map_cons, List.map_nil]
      rw [show (192 + (c : Int) / 64).toNat = 192 + c / 64 by omega, show (128 + (c : Int) % 64).toNat = 128 + c % 64 by omega]
    · by_cases h3 : c < 65536
      · rw [enc3 h h1 h2 h3, Lib.encodeRuneZ_three (by omega)]
        simp only [List.map_cons, List.map_nil]
        rw [show (224 + (c : Int) / 4096).toNat = 224 + c / 4096 by omega, show (128 + (c : Int) / 64 % 64).toNat = 128 + c / 64 % 64 by omega, show (128 + (c : Int) % 64).toNat = 128 + c % 64 by omega]
      · rw [enc4 h h1 h2 h3, Lib.encodeRuneZ_four (by omega) (by omega)]
        simp only [List.map_cons, List.map_nil]
        rw [show (240 + (c : Int) / 262144).toNat = 240 + c / 262144 by omega, show (128 + (c : Int) / 4096 % 64).toNat = 128 + c / 4096 % 64 by omega, show (128 + (c : Int) / 64 % 64).toNat = 128 + c / 64 % 64 by omega, show (128 + (c : Int) % 64).toNat = 128 + c % 64 by omega]
/-- Bytes are what their characters encode to. -/
theorem enc_chars : ∀ (n : Nat) (l : List UInt8) (cs : List Nat), l.length ≤ n → charsD l = some cs → encL cs = l ∧ ∀ c ∈ cs, isN c
  | 0, l, cs, hn, h => by
    have : l = [] := List.eq_nil_of_length_eq_zero (by omega)
    subst this
    rw [charsD_nil] at h; cases h
    exact ⟨rfl, by simp⟩
  | n + 1, l, cs, hn, h => by
    by_cases hne : l = []
    · subst hne
      rw [charsD_nil] at h; cases h
      exact ⟨rfl, by simp⟩
    · rw [charsD_step l hne] at h
      by_cases h0 : (ptL l).2 = 0
      · rw [if_pos h0] at h; cases h
      · rw [if_neg h0] at h
        cases hd : charsD (l.drop (ptL l).2) with
        | none => rw [hd] at h; cases h
        | some cs' =>
          rw [hd] at h
          simp only [Option.map_some, Option.some.injEq] at h
          subst h
          have hN := ptL_isN l (by omega)
          obtain ⟨h1, h2⟩ := enc_chars n (l.drop (ptL l).2) cs' (by rw [List.length_drop]; have := List.length_pos_iff.2 hne; omega) hd
          refine ⟨?_, fun c hc => ?_⟩
          · rw [encL_cons, h1, ← encR_eq hN]
            rcases ptL_decode l with ⟨g, _⟩ | ⟨_, g, g2⟩
            · rw [g] at h0; simp at h0
            · rw [g, Lib.encode_decode l hne g2, List.take_append_drop]
          · rcases List.mem_cons.1 hc with rfl | hc
            · exact hN
            · exact h2 c hc
/-- The characters of a string (none if it is not valid). -/
def chrs (s : ByteArray) : List Nat := (charsD s.data.toList).getD []
theorem chrs_isN (s : ByteArray) : ∀ c ∈ chrs s, isN c := by
  unfold chrs
  cases h : charsD s.data.toList with
  | none => simp
  | some cs => exact (enc_chars _ _ cs (Nat.le_refl _) h).2
theorem encS_chrs {s : ByteArray} (h : (charsD s.data.toList).isSome = true) : encS (chrs s) = s := by
  unfold chrs
  cases hc : charsD s.data.toList with
  | none => rw [hc] at h; cases h
  | some cs => exact bytes_ext (by rw [encS_list]; exact (enc_chars _ _ cs (Nat.le_refl _) hc).1)
theorem chrs_encS {cs : List Nat} (h : ∀ c ∈ cs, isN c) : chrs (encS cs) = cs ∧ (charsD (encS cs).data.toList).isSome = true := by
  unfold chrs
  rw [encS_list, chars_enc cs h]; exact ⟨rfl, rfl⟩
theorem chrs_len (s : ByteArray) : (chrs s).length ≤ s.size := by
  unfold chrs
  cases h : charsD s.data.toList with
  | none => simp
  | some cs =>
    have := chars_len _ _ cs (Nat.le_refl _) h
    simpa using this
/-- One step of a range over a valid string. -/
theorem decode_step {s : ByteArray} {pos : Nat} {cs : List Nat} (hp : pos < s.size) (h : charsD (s.data.toList.drop pos) = some cs) :
    ∃ c t, cs = c :: t ∧ (Utf8.decode s pos).1 = c ∧ 0 < (Utf8.decode s pos).2 ∧ pos + (Utf8.decode s pos).2 ≤ s.size ∧ charsD (s.data.toList.drop (pos + (Utf8.decode s pos).2)) = some t ∧ isN c := by
  have hne : s.data.toList.drop pos ≠ [] := fun e => by
    have := congrArg List.length e
    rw [List.length_drop] at this; simp at this; omega
  rw [charsD_step _ hne] at h
  by_cases h0 : (ptL (s.data.toList.drop pos)).2 = 0
  · rw [if_pos h0] at h; cases h
  · rw [if_neg h0] at h
    have hb := ptL_bound _ hne
    have hN := ptL_isN _ (Nat.pos_of_ne_zero h0)
    rcases ptL_decode (s.data.toList.drop pos) with ⟨g, _⟩ | ⟨_, g, _⟩
    · rw [g] at h0; simp at h0
    · rw [Lib.decodeL_drop] at g
      rw [g] at h h0 hb hN
      cases hd : charsD ((s.data.toList.drop pos).drop (Utf8.decode s pos).2) with
      | none => rw [hd] at h; cases h
      | some t =>
        rw [hd] at h
        simp only [Option.map_some, Option.some.injEq] at h
        rw [List.drop_drop] at hd
        rw [List.length_drop] at hb
        refine ⟨_, t, h.symm, rfl, by omega, ?_, hd, hN⟩
        have := hb.1
        simp at this
        omega
end Go.Proofs.YtobnmpgfkgoapaaGreatDoor
/- Lines and columns of a text: plain laws. -/
namespace Go.Proofs.YtobnmpgfkgoapaaGreatDoor
set_option linter.unusedVariables false
set_option linter.unusedSimpArgs false
/-- The character at a position, the first position being 1. -/
def chr (cs : List Nat) (i : Nat) : Nat := cs.getD (i - 1) 0
/-- Where the line of a position begins: behind the last line feed before it, but not before lo. -/
def lineB (cs : List Nat) (lo : Nat) : Nat → Nat
  | 0 => lo
  | k + 1 => if k + 1 ≤ lo then lo else if chr cs k = 10 then k + 1 else lineB cs lo k
def lineEf (cs : List Nat) : Nat → Nat → Nat
  | 0, i => i
  | n + 1, i => if chr cs i = 10 then i else lineEf cs n (i + 1)
/-- Where the line of a position ends: at the first line feed from it on, but not behind hi. -/
def lineE (cs : List Nat) (hi i : Nat) : Nat := lineEf cs (hi - i) i
section
variable {cs : List Nat} {lo hi : Nat}
theorem lineB_ge : ∀ i, lo ≤ lineB cs lo i
  | 0 => Nat.le_refl _
  | k + 1 => by
    unfold lineB
    split
    · omega
    · split
      · omega
      · exact lineB_ge k
theorem lineB_le : ∀ i, lo ≤ i → lineB cs lo i ≤ i
  | 0, h => by unfold lineB; omega
  | k + 1, h => by
    unfold lineB
    split
    · omega
    · split
      · omega
      · have := lineB_le k (by omega); omega
theorem lineB_no : ∀ i j, lineB cs lo i ≤ j → j < i → chr cs j ≠ 10
  | 0, j, h, h2 => by omega
  | k + 1, j, h, h2 => by
    unfold lineB at h
    split at h
    · omega
    · split at h
      · omega
      · rename_i hne
        by_cases hj : j = k
        · rw [hj]; exact hne
        · exact lineB_no k j h (by omega)
theorem lineB_at : ∀ i, lineB cs lo i = lo ∨ lo < lineB cs lo i ∧ chr cs (lineB cs lo i - 1) = 10
  | 0 => .inl rfl
  | k + 1 => by
    unfold lineB
    split
    · exact .inl rfl
    · split
      · rename_i h1 h2
        exact .inr ⟨by omega, by rw [show k + 1 - 1 = k by omega]; exact h2⟩
      · exact lineB_at k
/-- The beginning is determined by what it is. -/
theorem lineB_eq : ∀ (i b : Nat), lo ≤ b → b ≤ i → (∀ j, b ≤ j → j < i → chr cs j ≠ 10) → (b = lo ∨ lo < b ∧ chr cs (b - 1) = 10) → lineB cs lo i = b
  | 0, b, h1, h2, _, _ => by unfold lineB; omega
  | k + 1, b, h1, h2, h3, h4 => by
    unfold lineB
    split
    · omega
    · split
      · rename_i h5 h6
        by_cases hb : b = k + 1
        · exact hb.symm
        · exact absurd h6 (h3 k (by omega) (by omega))
      · rename_i h5 h6
        by_cases hb : b = k + 1
        · subst hb
          rcases h4 with h4 | ⟨_, h4⟩
          · omega
          · rw [show k + 1 - 1 = k by omega] at h4; exact absurd h4 h6
        · exact lineB_eq k b h1 (by omega) (fun j hj hk => h3 j hj (by omega)) h4
theorem lineEf_ge : ∀ n i, i ≤ lineEf cs n i ∧ lineEf cs n i ≤ i + n ∧ (∀ j, i ≤ j → j < lineEf cs n i → chr cs j ≠ 10) ∧ (lineEf cs n i = i + n ∨ chr cs (lineEf cs n i) = 10)
  | 0, i => ⟨Nat.le_refl _, Nat.le_refl _, fun j h h2 => by unfold lineEf at h2; omega, .inl rfl⟩
  | n + 1, i => by
    unfold lineEf
    split
    · rename_i h
      exact ⟨Nat.le_refl _, by omega, fun j h h2 => by omega, .inr h⟩
    · rename_i hne
      obtain ⟨h1, h2, h3, h4⟩ := lineEf_ge n (i + 1)
      refine ⟨by omega, by omega, fun j hj hk => ?_, ?_⟩
      · by_cases e : j = i
        · rw [e]; exact hne
        · exact h3 j (by omega) hk
      · rcases h4 with h4 | h4
        · exact .inl (by omega)
        · exact .inr h4
theorem lineE_ge (i : Nat) : i ≤ lineE cs hi i := (lineEf_ge _ _).1
theorem lineE_le (i : Nat) (h : i ≤ hi) : lineE cs hi i ≤ hi := by have := (lineEf_ge (cs := cs) (hi - i) i).2.1; unfold lineE; omega
theorem lineE_no (i j : Nat) (h : i ≤ j) (h2 : j < lineE cs hi i) : chr cs j ≠ 10 := (lineEf_ge _ _).2.2.1 j h h2
theorem lineE_at (i : Nat) (h : i ≤ hi) : lineE cs hi i = hi ∨ lineE cs hi i < hi ∧ chr cs (lineE cs hi i) = 10 := by
  have h1 := (lineEf_ge (cs := cs) (hi - i) i).2.2.2
  have h2 := lineE_le (cs := cs) i h
  rcases h1 with h1 | h1
  · left; unfold lineE; omega
  · by_cases e : lineE cs hi i = hi
    · exact .inl e
    · exact .inr ⟨by omega, h1⟩
/-- Between the ends of a line each position has the same beginning. -/
theorem lineB_same (i k : Nat) (h1 : lo ≤ i) (h2 : lineB cs lo i ≤ k) (h3 : k ≤ lineE cs hi i) : lineB cs lo k = lineB cs lo i :=
  lineB_eq k _ (lineB_ge i) h2 (fun j hj hk => by
    by_cases e : j < i
    · exact lineB_no i j hj e
    · exact lineE_no (hi := hi) i j (by omega) (by omega)) (lineB_at i)
/-! ### Columns -/
/-- The columns of a character; how a column goes on behind a character. -/
def afterN (wid : Nat → Nat) (tab col c : Nat) : Nat := if c = 9 then col + tab - col % tab else col + wid c
def colF (wid : Nat → Nat) (cs : List Nat) (tab : Nat) : Nat → Nat → Nat → Nat
  | 0, _, col => col
  | n + 1, i, col => colF wid cs tab n (i + 1) (afterN wid tab col (chr cs i))
/-- The column of position i in the line that begins at b. -/
def colN (wid : Nat → Nat) (cs : List Nat) (tab b i : Nat) : Nat := colF wid cs tab (i - b) b 0
variable {wid : Nat → Nat} {tab : Nat}
theorem colF_snoc : ∀ n i col, colF wid cs tab (n + 1) i col = afterN wid tab (colF wid cs tab n i col) (chr cs (i + n))
  | 0, i, col => rfl
  | n + 1, i, col => by
    rw [colF, colF_snoc n (i + 1) _, colF, show i + 1 + n = i + (n + 1) by omega]
theorem colN_self (b : Nat) : colN wid cs tab b b = 0 := by unfold colN; rw [Nat.sub_self]; rfl
theorem colN_succ (b i : Nat) (h : b ≤ i) : colN wid cs tab b (i + 1) = afterN wid tab (colN wid cs tab b i) (chr cs i) := by
  unfold colN
  rw [show i + 1 - b = (i - b) + 1 by omega, colF_snoc, show b + (i - b) = i by omega]
theorem afterN_ge (ht : 1 ≤ tab) (col c : Nat) : col ≤ afterN wid tab col c := by
  unfold afterN
  split
  · have := Nat.mod_lt col (show 0 < tab by omega); omega
  · omega
theorem colN_mono (ht : 1 ≤ tab) (b : Nat) : ∀ (k i : Nat), b ≤ i → colN wid cs tab b i ≤ colN wid cs tab b (i + k)
  | 0, i, h => Nat.le_refl _
  | k + 1, i, h => by
    have h1 := colN_mono ht b k i h
    rw [show i + (k + 1) = (i + k) + 1 by omega, colN_succ b (i + k) (by omega)]
    exact Nat.le_trans h1 (afterN_ge ht _ _)
theorem colN_le (ht : 1 ≤ tab) (b i j : Nat) (h : b ≤ i) (hij : i ≤ j) : colN wid cs tab b i ≤ colN wid cs tab b j := by
  have := colN_mono (wid := wid) (cs := cs) ht b (j - i) i h
  rwa [show i + (j - i) = j by omega] at this
theorem afterN_le (hw : ∀ c, wid c ≤ 2) (ht : tab ≤ 64) (col c : Nat) : afterN wid tab col c ≤ col + 64 := by
  unfold afterN
  split
  · omega
  · have := hw c; omega
theorem colN_bound (hw : ∀ c, wid c ≤ 2) (ht : tab ≤ 64) (b : Nat) : ∀ k, colN wid cs tab b (b + k) ≤ 64 * k
  | 0 => by rw [Nat.add_zero, colN_self]; omega
  | k + 1 => by
    have h1 := colN_bound hw ht b k
    rw [show b + (k + 1) = (b + k) + 1 by omega, colN_succ b (b + k) (by omega)]
    have := afterN_le hw ht (colN wid cs tab b (b + k)) (chr cs (b + k))
    omega
theorem colN_cap (hw : ∀ c, wid c ≤ 2) (ht : tab ≤ 64) (b i : Nat) (h : b ≤ i) : colN wid cs tab b i ≤ 64 * (i - b) := by
  have := colN_bound (cs := cs) hw ht b (i - b)
  rwa [show b + (i - b) = i by omega] at this
/-- The first position of a line at a column, or its end. -/
def seekF (wid : Nat → Nat) (cs : List Nat) (tab b : Nat) (col : Nat) : Nat → Nat → Nat
  | 0, i => i
  | n + 1, i => if colN wid cs tab b i < col then seekF wid cs tab b col n (i + 1) else i
def seekN (wid : Nat → Nat) (cs : List Nat) (tab b e col : Nat) : Nat := seekF wid cs tab b col (e - b) b
theorem seekF_is (col b : Nat) : ∀ n i, i ≤ seekF wid cs tab b col n i ∧ seekF wid cs tab b col n i ≤ i + n ∧ (∀ j, i ≤ j → j < seekF wid cs tab b col n i → colN wid cs tab b j < col) ∧
    (seekF wid cs tab b col n i = i + n ∨ col ≤ colN wid cs tab b (seekF wid cs tab b col n i))
  | 0, i => ⟨Nat.le_refl _, Nat.le_refl _, fun j h h2 => by unfold seekF at h2; omega, .inl rfl⟩
  | n + 1, i => by
    unfold seekF
    split
    · rename_i h
      obtain ⟨h1, h2, h3, h4⟩ := seekF_is col b n (i + 1)
      refine ⟨by omega, by omega, fun j hj hk => ?_, ?_⟩
      · by_cases e : j = i
        · rw [e]; exact h
        · exact h3 j (by omega) hk
      · rcases h4 with h4 | h4
        · exact .inl (by omega)
        · exact .inr h4
    · rename_i h
      exact ⟨Nat.le_refl _, by omega, fun j h h2 => by omega, .inr (by omega)⟩
theorem seekN_is (b e col : Nat) (h : b ≤ e) : b ≤ seekN wid cs tab b e col ∧ seekN wid cs tab b e col ≤ e ∧ (∀ j, b ≤ j → j < seekN wid cs tab b e col → colN wid cs tab b j < col) ∧
    (seekN wid cs tab b e col = e ∨ col ≤ colN wid cs tab b (seekN wid cs tab b e col)) := by
  obtain ⟨h1, h2, h3, h4⟩ := seekF_is (wid := wid) (cs := cs) (tab := tab) col b (e - b) b
  unfold seekN
  exact ⟨h1, by omega, h3, by rcases h4 with h4 | h4; exact .inl (by omega); exact .inr h4⟩
/-- It is determined by what it is. -/
theorem seekN_eq (b e col i : Nat) (h : b ≤ e) (h1 : b ≤ i) (h2 : i ≤ e) (h3 : ∀ j, b ≤ j → j < i → colN wid cs tab b j < col) (h4 : i = e ∨ col ≤ colN wid cs tab b i) : seekN wid cs tab b e col = i := by
  obtain ⟨g1, g2, g3, g4⟩ := seekN_is (wid := wid) (cs := cs) (tab := tab) b e col h
  rcases Nat.lt_trichotomy (seekN wid cs tab b e col) i with hl | he | hg
  · have := h3 _ g1 hl
    rcases g4 with g4 | g4 <;> omega
  · exact he
  · have := g3 i h1 hg
    rcases h4 with h4 | h4 <;> omega
/-- Seeking a position's own column finds it no later, and at that column. -/
theorem seek_own (ht : 1 ≤ tab) (b e i : Nat) (h1 : b ≤ i) (h2 : i ≤ e) : seekN wid cs tab b e (colN wid cs tab b i) ≤ i ∧ colN wid cs tab b (seekN wid cs tab b e (colN wid cs tab b i)) = colN wid cs tab b i := by
  obtain ⟨g1, g2, g3, g4⟩ := seekN_is (wid := wid) (cs := cs) (tab := tab) b e (colN wid cs tab b i) (by omega)
  have hle : seekN wid cs tab b e (colN wid cs tab b i) ≤ i := by
    rcases Nat.lt_or_ge i (seekN wid cs tab b e (colN wid cs tab b i)) with h | h
    · have := g3 i h1 h; omega
    · exact h
  refine ⟨hle, ?_⟩
  have hm := colN_le (wid := wid) (cs := cs) ht b _ i g1 hle
  rcases g4 with g4 | g4
  · have : seekN wid cs tab b e (colN wid cs tab b i) = i := by omega
    rw [this]
  · omega
/-! ### Lines -/
def fwdN (cs : List Nat) (hi : Nat) : Nat → Nat → Nat × Nat
  | 0, i => (i, 0)
  | n + 1, i => if lineE cs hi i = hi then (hi, n + 1) else fwdN cs hi n (lineE cs hi i + 1)
def bwdN (cs : List Nat) (lo : Nat) : Nat → Nat → Nat × Nat
  | 0, i => (i, 0)
  | n + 1, i => if i = lo then (lo, n + 1) else bwdN cs lo n (lineB cs lo (i - 1))
/-- The line feeds in a range. -/
def nFeeds (cs : List Nat) : Nat → Nat → Nat
  | 0, _ => 0
  | n + 1, i => (if chr cs i = 10 then 1 else 0) + nFeeds cs n (i + 1)
def feedsIn (cs : List Nat) (a b : Nat) : Nat := nFeeds cs (b - a) a
theorem nFeeds_add : ∀ m n i, nFeeds cs (m + n) i = nFeeds cs m i + nFeeds cs n (i + m)
  | 0, n, i => by simp [nFeeds]
  | m + 1, n, i => by
    rw [show m + 1 + n = (m + n) + 1 by omega, nFeeds, nFeeds, nFeeds_add m n (i + 1), show i + 1 + m = i + (m + 1) by omega]
    omega
theorem feedsIn_self (a : Nat) : feedsIn cs a a = 0 := by unfold feedsIn; rw [Nat.sub_self]; rfl
theorem feedsIn_succ (a b : Nat) (h : a ≤ b) : feedsIn cs a (b + 1) = feedsIn cs a b + (if chr cs b = 10 then 1 else 0) := by
  unfold feedsIn
  rw [show b + 1 - a = (b - a) + 1 by omega, nFeeds_add, show a + (b - a) = b by omega]
  simp [nFeeds]
theorem feedsIn_add (a b c : Nat) (h : a ≤ b) (h2 : b ≤ c) : feedsIn cs a c = feedsIn cs a b + feedsIn cs b c := by
  unfold feedsIn
  rw [show c - a = (b - a) + (c - b) by omega, nFeeds_add, show a + (b - a) = b by omega]
theorem nFeeds_none : ∀ n i, (∀ j, i ≤ j → j < i + n → chr cs j ≠ 10) → nFeeds cs n i = 0
  | 0, i, h => rfl
  | n + 1, i, h => by
    rw [nFeeds, if_neg (h i (by omega) (by omega)), nFeeds_none n (i + 1) (fun j h1 h2 => h j (by omega) (by omega))]
theorem feedsIn_none (a b : Nat) (h : ∀ j, a ≤ j → j < b → chr cs j ≠ 10) : feedsIn cs a b = 0 := nFeeds_none _ _ (fun j h1 h2 => h j h1 (by omega))
theorem nFeeds_zero : ∀ n i, nFeeds cs n i = 0 → ∀ j, i ≤ j → j < i + n → chr cs j ≠ 10
  | 0, i, _, j, h1, h2 => by omega
  | n + 1, i, h, j, h1, h2 => by
    rw [nFeeds] at h
    have h3 : chr cs i ≠ 10 := fun e => by rw [if_pos e] at h; omega
    by_cases e : j = i
    · rw [e]; exact h3
    · exact nFeeds_zero n (i + 1) (by omega) j (by omega) (by omega)
theorem feedsIn_zero (a b : Nat) (h : feedsIn cs a b = 0) (j : Nat) (h1 : a ≤ j) (h2 : j < b) : chr cs j ≠ 10 := nFeeds_zero _ _ h j h1 (by omega)
/-- Moving forward. -/
theorem fwdN_is : ∀ (n i : Nat), i ≤ hi → (fwdN cs hi n i).2 ≤ n ∧ i ≤ (fwdN cs hi n i).1 ∧ (fwdN cs hi n i).1 ≤ hi ∧ feedsIn cs i (fwdN cs hi n i).1 = n - (fwdN cs hi n i).2 ∧
    (0 < (fwdN cs hi n i).2 → (fwdN cs hi n i).1 = hi) ∧ ((fwdN cs hi n i).2 = 0 → 0 < n → i < (fwdN cs hi n i).1 ∧ chr cs ((fwdN cs hi n i).1 - 1) = 10)
  | 0, i, h => ⟨Nat.le_refl _, Nat.le_refl _, h, feedsIn_self i, fun h => by simp [fwdN] at h, fun _ h => by omega⟩
  | n + 1, i, h => by
    have hg := lineE_ge (cs := cs) (hi := hi) i
    have hl := lineE_le (cs := cs) (hi := hi) i h
    have hz := feedsIn_none (cs := cs) i (lineE cs hi i) (fun j h1 h2 => lineE_no i j h1 h2)
    unfold fwdN
    split
    · rename_i he
      rw [he] at hz
      exact ⟨Nat.le_refl _, h, Nat.le_refl _, by rw [hz]; simp, fun _ => rfl, fun h => by simp at h⟩
    · rename_i he
      have hat := (lineE_at (cs := cs) (hi := hi) i h).resolve_left he
      obtain ⟨g1, g2, g3, g4, g5, g6⟩ := fwdN_is n (lineE cs hi i + 1) (by omega)
      have e1 : feedsIn cs i (lineE cs hi i + 1) = 1 := by rw [feedsIn_succ _ _ hg, hz, if_pos hat.2]
      refine ⟨by omega, by omega, g3, ?_, g5, fun h0 _ => ?_⟩
      · rw [feedsIn_add i (lineE cs hi i + 1) _ (by omega) g2, e1, g4]; omega
      · by_cases hn : 0 < n
        · have := g6 h0 hn
          exact ⟨by omega, this.2⟩
        · obtain rfl : n = 0 := by omega
          simp only [fwdN]
          exact ⟨by omega, by rw [Nat.add_sub_cancel]; exact hat.2⟩
/-- Moving back over as many lines as there are line feeds in between leads to the line's beginning. -/
theorem bwdN_back : ∀ (m a t : Nat), lo ≤ a → a ≤ t → feedsIn cs a t = m → bwdN cs lo m (lineB cs lo t) = (lineB cs lo a, 0)
  | 0, a, t, h1, h2, h3 => by
    have h := feedsIn_zero a t h3
    rw [bwdN, lineB_eq t (lineB cs lo a) (lineB_ge a) (Nat.le_trans (lineB_le a h1) h2) (fun j hj hk => ?_) (lineB_at a)]
    by_cases e : j < a
    · exact lineB_no a j hj e
    · exact h j (by omega) hk
  | m + 1, a, t, h1, h2, h3 => by
    -- the last line feed before t is at or behind a
    have hb := lineB_at (cs := cs) (lo := lo) t
    have hno := lineB_no (cs := cs) (lo := lo) t
    have hle := lineB_le (cs := cs) (lo := lo) t (by omega)
    have hgt : a < lineB cs lo t := by
      rcases Nat.lt_or_ge a (lineB cs lo t) with h | h
      · exact h
      · have := feedsIn_none (cs := cs) a t (fun j hj hk => hno j (by omega) hk); omega
    rcases hb with hb | ⟨hb1, hb2⟩
    · omega
    · have hz := feedsIn_none (cs := cs) (lineB cs lo t) t (fun j hj hk => hno j hj hk)
      have e1 := feedsIn_add (cs := cs) a (lineB cs lo t) t (by omega) hle
      have e2 := feedsIn_succ (cs := cs) a (lineB cs lo t - 1) (by omega)
      rw [show lineB cs lo t - 1 + 1 = lineB cs lo t by omega, if_pos hb2] at e2
      rw [bwdN, if_neg (by omega)]
      exact bwdN_back m a (lineB cs lo t - 1) h1 (by omega) (by omega)
theorem lineB_lo (i : Nat) (h : i ≤ lo) : lineB cs lo i = lo := by
  cases i with
  | zero => rfl
  | succ k => unfold lineB; rw [if_pos (by omega)]
theorem lineB_idem (i : Nat) (h : lo ≤ i) : lineB cs lo (lineB cs lo i) = lineB cs lo i :=
  lineB_eq _ _ (lineB_ge i) (Nat.le_refl _) (fun j h1 h2 => by omega) (lineB_at i)
end
end Go.Proofs.YtobnmpgfkgoapaaGreatDoor
/- A text with a gap, in memory; none, Size, rune, Char, span, Find, FindBack. -/
namespace Go.Proofs.YtobnmpgfkgoapaaGreatDoor
open Go.RowKit
set_option linter.unusedVariables false
set_option linter.unusedSimpArgs false

/-- The text object at block t, with its characters in block g: cs. -/
structure GapI (w : World) (t g : Nat) (B : List Int) (cap st en : Nat) (cs : List Nat) : Prop where
  c0 : w.cell? ⟨t, 0, none⟩ = some (.slice (some ⟨g, 0, none⟩) B.length cap)
  c1 : w.cell? ⟨t, 1, none⟩ = some (.int .i64 st)
  c2 : w.cell? ⟨t, 2, none⟩ = some (.int .i64 en)
  hc : B.length ≤ cap
  hm : cap ≤ 1000000
  hg : g < w.heap.size
  hb : ∀ (i : Nat) (z : Int), B[i]? = some z → w.cell? ⟨g, i, none⟩ = some (.int .i32 z)
  h1 : st ≤ en
  h2 : en ≤ B.length
  hB : B.take st ++ B.drop en = cs.map Int.ofNat
  hn : ∀ c ∈ cs, isN c
def GapR (w : World) (t g : Nat) (cs : List Nat) : Prop := ∃ B cap st en, GapI w t g B cap st en cs
section
variable {w w' : World} {t g cap st en : Nat} {B : List Int} {cs : List Nat}
theorem GapI.lt (h : GapI w t g B cap st en cs) : t < w.heap.size := lt_of_cell h.c0
theorem GapI.kept (h : GapI w t g B cap st en cs) (ht : w'.heap[t]? = w.heap[t]?) (hg : w'.heap[g]? = w.heap[g]?) (hs : w.heap.size ≤ w'.heap.size) : GapI w' t g B cap st en cs :=
  ⟨(World.cell?_of_block (w := w) (a := ⟨t, 0, none⟩) ht).trans h.c0, (World.cell?_of_block (w := w) (a := ⟨t, 1, none⟩) ht).trans h.c1, (World.cell?_of_block (w := w) (a := ⟨t, 2, none⟩) ht).trans h.c2, h.hc, h.hm, Nat.lt_of_lt_of_le h.hg hs,
    fun i z hz => (World.cell?_of_block (w := w) (a := ⟨g, i, none⟩) hg).trans (h.hb i z hz), h.h1, h.h2, h.hB, h.hn⟩
theorem GapI.up (h : GapI w t g B cap st en cs) (hb : Below w.heap.size w w') : GapI w' t g B cap st en cs := h.kept (hb.block t h.lt) (hb.block g h.hg) hb.size
theorem GapR.up (h : GapR w t g cs) (hb : Below w.heap.size w w') : GapR w' t g cs := by obtain ⟨B, cap, st, en, h⟩ := h; exact ⟨B, cap, st, en, h.up hb⟩
theorem GapR.kept (h : GapR w t g cs) (ht : w'.heap[t]? = w.heap[t]?) (hg : w'.heap[g]? = w.heap[g]?) (hs : w.heap.size ≤ w'.heap.size) : GapR w' t g cs := by obtain ⟨B, cap, st, en, h⟩ := h; exact ⟨B, cap, st, en, h.kept ht hg hs⟩
theorem GapI.len (h : GapI w t g B cap st en cs) : cs.length + (en - st) = B.length := by
  have e := congrArg List.length h.hB
  rw [List.length_append, List.length_take, List.length_drop, List.length_map] at e
  have := h.h1; have := h.h2; omega
theorem GapR.len (h : GapR w t g cs) : cs.length ≤ 1000000 := by
  obtain ⟨B, cap, st, en, h⟩ := h
  have := h.len; have := h.hc; have := h.hm; omega
theorem GapI.at_ (h : GapI w t g B cap st en cs) {i : Nat} (hi : i < cs.length) : w.cell? ⟨g, (if i < st then i else i + (en - st)), none⟩ = some (.int .i32 (cs.getD i 0 : Nat)) := by
  have hl := h.len
  have h1 := h.h1; have h2 := h.h2
  have e : (B.take st ++ B.drop en)[i]? = some ((cs.getD i 0 : Nat) : Int) := by
    rw [h.hB, List.getElem?_map, List.getD_eq_getElem?_getD, List.getElem?_eq_getElem hi]; rfl
  by_cases hs : i < st
  · rw [if_pos hs]
    rw [List.getElem?_append_left (by rw [List.length_take]; omega), List.getElem?_take_of_lt hs] at e
    exact h.hb i _ e
  · rw [if_neg hs]
    rw [List.getElem?_append_right (by rw [List.length_take]; omega), List.length_take, List.getElem?_drop, show en + (i - min st B.length) = i + (en - st) by omega] at e
    exact h.hb _ _ e
theorem GapI.chr_bound (h : GapI w t g B cap st en cs) (i : Nat) : cs.getD i 0 ≤ 1114111 := by
  rw [List.getD_eq_getElem?_getD]
  cases e : cs[i]? with
  | none => simp
  | some c => exact (h.hn c (List.mem_of_getElem? e)).1

set_option maxRecDepth 100000 in
set_option maxHeartbeats 1000000 in
theorem gnone (h : GapI w t g B cap st en cs) : Calls Tryz.prog 74 #[.pointer (some ⟨t, 0, none⟩)] w fun e w' => e = .returned (.bool false) ∧ w = w' := by
  have c0 := h.c0
  have hn := Lib.run_eql_slice_nil (P := Tryz.prog) w 107 21 (some ⟨g, 0, none⟩) B.length cap 0 0 Tryz.underlying107
  clear h
  go_enter Tryz.func74, Tryz.ntmps74
  go_wp2_with fail
  go_ret
  exact ⟨rfl, rfl⟩
set_option maxHeartbeats 1000000 in
theorem gsize (h : GapR w t g cs) : Calls Tryz.prog 31 #[.pointer (some ⟨t, 0, none⟩)] w fun e w' => e = .returned (.int .i64 cs.length) ∧ Below w.heap.size w w' := by
  obtain ⟨B, cap, st, en, h⟩ := h
  have c0 := h.c0
  have c1 := h.c1
  have c2 := h.c2
  have hl := h.len
  have h1 := h.h1
  have h2 := h.h2
  have h3 := h.hc
  have h4 := h.hm
  have s1 : IntKind.i64.wrap ((en : Int) - (st : Int)) = (en : Int) - (st : Int) := IntWalk.i64_in _ (by omega)
  have s2 : IntKind.i64.wrap ((B.length : Int) - ((en : Int) - (st : Int))) = (cs.length : Int) := by rw [IntWalk.i64_in _ (by omega)]; omega
  have HN := Lib.hid (gnone h)
  clear h hl h1 h2 h3 h4
  go_enter Tryz.func31, Tryz.ntmps31
  go_wp2_with fail
  refine HN.out.mono ?_
  rintro e w' ⟨rfl, rfl⟩
  go_wp2_with fail
  go_region
  go_wp2_with fail
  go_ret
  exact ⟨rfl, (Below.refl _ w).drew⟩
theorem chr_get (cs : List Nat) (k : Nat) : cs.getD k 0 = chr cs (k + 1) := by unfold chr; rw [Nat.add_sub_cancel]
/-- Handed back by Char. -/
def charV (cs : List Nat) (at_ : Nat) : Value := if 1 ≤ at_ ∧ at_ ≤ cs.length then .tuple #[.int .i64 (chr cs at_ : Nat), .bool true] else .tuple #[.int .i64 0, .bool false]
theorem chr_cap (h : GapR w t g cs) (i : Nat) : chr cs i ≤ 1114111 := by obtain ⟨B, cap, st, en, h⟩ := h; exact h.chr_bound _
/-- The first line feed (or whatever character) from a position on. -/
def FindP (w : World) (cs : List Nat) (c lo hi : Nat) (e : Ending) (w' : World) : Prop := Below w.heap.size w w' ∧
  ((∃ i, lo ≤ i ∧ i < hi ∧ chr cs i = c ∧ (∀ j, lo ≤ j → j < i → chr cs j ≠ c) ∧ e = .returned (.tuple #[.int .i64 i, .bool true])) ∨ ((∀ j, lo ≤ j → j < hi → chr cs j ≠ c) ∧ e = .returned (.tuple #[.int .i64 0, .bool false])))
def FindBackP (w : World) (cs : List Nat) (c lo hi : Nat) (e : Ending) (w' : World) : Prop := Below w.heap.size w w' ∧
  ((∃ i, lo ≤ i ∧ i < hi ∧ chr cs i = c ∧ (∀ j, i < j → j < hi → chr cs j ≠ c) ∧ e = .returned (.tuple #[.int .i64 i, .bool true])) ∨ ((∀ j, lo ≤ j → j < hi → chr cs j ≠ c) ∧ e = .returned (.tuple #[.int .i64 0, .bool false])))
def intOf : Value → Int
  | .int _ n => n
  | _ => 0
end
end Go.Proofs.YtobnmpgfkgoapaaGreatDoor
/- A fresh text: move, grow. -/
namespace Go.Proofs.YtobnmpgfkgoapaaGreatDoor
open Go.RowKit
set_option linter.unusedVariables false
set_option linter.unusedSimpArgs false
/-- The cells of a text's block. -/
abbrev txtC (g L cap st en : Nat) (f : Value) : Array Value := #[.slice (some ⟨g, 0, none⟩) L cap, .int .i64 st, .int .i64 en, f]
section
variable {w w' : World} {t g : Nat}
set_option maxHeartbeats 1000000 in
theorem gmove0 (f : Value) (h : Blk w t 109 (txtC g 0 0 0 0 f)) : Calls Tryz.prog 157 #[.pointer (some ⟨t, 0, none⟩), .int .i64 0] w fun e w' => e = .returned (.tuple #[]) ∧ Only (fun k => k = t) w w' ∧ Blk w' t 109 (txtC g 0 0 0 0 f) := by
  have c0 := h.cell (j := 0) rfl
  have c1 := h.cell (j := 1) rfl
  have c2 := h.cell (j := 2) rfl
  have f1 := h.fz 1
  have f2 := h.fz 2
  have cp := fun w ty => run_copy_none (P := Tryz.prog) w 107 107 ty 21 (some ⟨g, 0, none⟩) (some ⟨g, 0, none⟩) 0 0 0 0 Tryz.underlying107 (by kernel_rfl) rfl
  have H := Lib.hid h
  clear h
  go_enter Tryz.func157, Tryz.ntmps157
  go_wp2_with fail
  go_region
  go_wp2_with fail
  go_region
  go_wp2_with fail
  go_end0
  refine ⟨rfl, ((((Only.refl (fun k => k = t) w).setCell (p := ⟨t, 1, none⟩) rfl _).setCell (p := ⟨t, 2, none⟩) rfl _).drew).drew, ?_⟩
  exact ((H.out.set (j := 1) (by simp) (.int .i64 0)).set (j := 2) (by simp) (.int .i64 0))
set_option maxRecDepth 100000 in
set_option maxHeartbeats 1000000 in
theorem ggrow0 (f : Value) (n : Nat) (hn : n ≤ 100000) (h : Blk w t 109 (txtC g 0 0 0 0 f)) (h1 : 1 ≤ n) : Calls Tryz.prog 158 #[.pointer (some ⟨t, 0, none⟩), .int .i64 n] w fun e w' => e = .returned (.tuple #[]) ∧ Only (fun k => k = t) w w' ∧
    Blk w' t 109 (txtC w.heap.size (n + 16) (n + 16) 0 (n + 16) f) ∧ w'.heap.size = w.heap.size + 1 ∧ Blk w' w.heap.size 21 (Array.replicate (n + 16) (.int .i32 0)) := by
  have c0 := h.cell (j := 0) rfl
  have c1 := h.cell (j := 1) rfl
  have c2 := h.cell (j := 2) rfl
  have f0 := h.fz 0
  have f2 := h.fz 2
  have ht := h.lt
  have d1 : decide ((n : Int) ≤ 0) = false := decide_eq_false (by omega)
  have s1 : IntKind.i64.wrap ((n : Int) - 0) = (n : Int) := by rw [IntWalk.i64_in _ (by omega)]; omega
  have s2 : IntKind.i64.wrap ((n : Int) + 0) = (n : Int) := by rw [IntWalk.i64_in _ (by omega)]; omega
  have hmk : ∀ w : World, (Instr.makeSlice 107 (.int .i64 ((n : Int) + 16)) (.int .i64 ((n : Int) + 16))).run Tryz.prog w = .ok (.slice (some ⟨w.heap.size, 0, none⟩) (n + 16) (n + 16)) (w.alloc (.cells (Array.replicate (n + 16) (.int .i32 0)) 21)) := fun w => by
    obtain ⟨i, hi, hsz, hby, hz⟩ : ∃ i, Tryz.prog.info? 21 = some i ∧ i.size = 1 ∧ i.bytes = 4 ∧ i.zero = some (.int .i32 0) := ⟨(Tryz.prog.info? 21).get (by kernel_rfl), (Option.some_get _).symm, by kernel_rfl, by kernel_rfl, by kernel_rfl⟩
    have hr := run_makeSlice (P := Tryz.prog) (w := w) 107 21 i (.int .i32 0) Tryz.underlying107 hi hz .i64 .i64 ((n : Int) + 16) ((n : Int) + 16) (by omega) (by omega) (by rw [hsz]; omega) (by rw [hby]; omega) (by omega)
    rw [hr, hsz]
    have e1 : ((n : Int) + 16).toNat = n + 16 := by omega
    have e2 : madeCells (Value.int .i32 0).cells ((n + 16) * 1) = Array.replicate (n + 16) (.int .i32 0) := by
      rw [Nat.mul_one]
      apply Array.ext
      · simp [madeCells]
      · intro j h1 h2
        simp [madeCells, Value.cells, Nat.mod_one]
    rw [e1, e2]
  generalize hZ : Array.replicate (n + 16) (Value.int .i32 0) = Z at *
  have cp := fun w ty d dLen dCap => run_copy_none (P := Tryz.prog) w 107 107 ty 21 d (some ⟨g, 0, none⟩) dLen dCap 0 0 Tryz.underlying107 (by kernel_rfl) (Nat.zero_min dLen)
  have H := Lib.hid h
  clear h
  go_enter Tryz.func158, Tryz.ntmps158
  go_wp2_with fail
  go_region
  go_wp2_with fail
  go_region
  go_wp2_with fail
  go_region
  go_wp2_with fail
  go_end0
  have hb2 := (H.out.set (j := 0) (by simp) (.slice (some ⟨w.heap.size, 0, none⟩) (n + 16) (n + 16))).set (j := 2) (by simp) (.int .i64 ((n : Int) + 16))
  have ho := ((Only.refl (fun k => k = t) w).setCell (p := ⟨t, 0, none⟩) rfl (.slice (some ⟨w.heap.size, 0, none⟩) (n + 16) (n + 16))).setCell (p := ⟨t, 2, none⟩) rfl (.int .i64 ((n : Int) + 16))
  have hs2 : ((w.setCell ⟨t, 0, none⟩ (.slice (some ⟨w.heap.size, 0, none⟩) (n + 16) (n + 16))).setCell ⟨t, 2, none⟩ (.int .i64 ((n : Int) + 16))).heap.size = w.heap.size := by simp
  generalize (w.setCell ⟨t, 0, none⟩ (.slice (some ⟨w.heap.size, 0, none⟩) (n + 16) (n + 16))).setCell ⟨t, 2, none⟩ (.int .i64 ((n : Int) + 16)) = W at *
  refine ⟨rfl, (((ho.alloc _).drew).drew).drew, ?_, ?_, ?_⟩
  · exact (hb2.up (below1 W (.cells Z 21)) : Blk _ _ _ _)
  · show (W.alloc (.cells Z 21)).heap.size = _
    simp [hs2]
  · have := Blk.made W 21 Z
    rw [hs2] at this
    exact this
end
end Go.Proofs.YtobnmpgfkgoapaaGreatDoor
/- Package copyistref01: tail, Is, point, List, Valid, Len. -/
namespace Go.Proofs.YtobnmpgfkgoapaaGreatDoor
open Go.RowKit
set_option linter.unusedVariables false
set_option linter.unusedSimpArgs false

theorem bAt_get (s : ByteArray) (i : Nat) (h : i < s.size) : bAt s.data.toList i = s[i].toNat := by
  unfold bAt
  rw [List.getD_eq_getElem?_getD, List.getElem?_eq_getElem (by simpa using h)]
  rfl
set_option maxHeartbeats 400000 in
theorem tail_yes (s : ByteArray) (i : Nat) (w : World) (hs : s.size ≤ 1000000000) (hi : i < 10) (h : tlN s.size i (bAt s.data.toList i)) : Calls Tryz.prog 110 #[.string s, .int .i64 i] w fun e w' => e = .returned (.bool true) ∧ w = w' := by
  obtain ⟨h1, h2, h3⟩ := h
  rw [bAt_get s i h1] at h2 h3
  go_enter Tryz.func110, Tryz.ntmps110
  go_wp2
  go_ret
  exact ⟨ret_bool (by first | (simp only [decide_eq_true_eq, decide_eq_false_iff_not]; omega) | rfl), rfl⟩
set_option maxHeartbeats 400000 in
theorem tail_no (s : ByteArray) (i : Nat) (w : World) (hs : s.size ≤ 1000000000) (hi : i < 10) (h : ¬ tlN s.size i (bAt s.data.toList i)) : Calls Tryz.prog 110 #[.string s, .int .i64 i] w fun e w' => e = .returned (.bool false) ∧ w = w' := by
  by_cases h1 : i < s.size
  · unfold tlN at h
    rw [bAt_get s i h1] at h
    by_cases h2 : s[i].toNat < 128
    · clear h
      go_enter Tryz.func110, Tryz.ntmps110
      go_wp2
      go_ret
      exact ⟨ret_bool (by first | (simp only [decide_eq_true_eq, decide_eq_false_iff_not]; omega) | rfl), rfl⟩
    · have h3 : 192 ≤ s[i].toNat := by omega
      have h4 : 128 ≤ s[i].toNat := by omega
      clear h h2
      go_enter Tryz.func110, Tryz.ntmps110
      go_wp2
      go_ret
      exact ⟨ret_bool (by first | (simp only [decide_eq_true_eq, decide_eq_false_iff_not]; omega) | rfl), rfl⟩
  · have h2 : s.size ≤ i := by omega
    clear h h1
    go_enter Tryz.func110, Tryz.ntmps110
    go_wp2
    go_ret
    exact ⟨ret_bool (by first | (simp only [decide_eq_true_eq, decide_eq_false_iff_not]; omega) | rfl), rfl⟩
theorem isI (c : Nat) (h : isN c) : (c : Int) ≤ 1114111 ∧ ((c : Int) < 55296 ∨ (57343 : Int) < c) := by unfold isN at h; omega
theorem notI (c : Nat) (h : ¬ isN c) : (1114111 : Int) < c ∨ ((c : Int) ≤ 1114111 ∧ (55296 : Int) ≤ c ∧ (c : Int) ≤ 57343) := by unfold isN at h; omega
def IsI (c : Int) : Bool := decide (c ≤ 1114111) && (decide (c < 55296) || decide (57343 < c))
theorem is_yes1 (c : Int) (w : World) (h0 : 0 ≤ c) (h1 : c < 55296) : Calls Tryz.prog 111 #[.int .i64 c] w fun e w' => e = .returned (.bool true) ∧ w = w' := by
  have h3 : decide (c ≤ 1114111) = true := decide_eq_true (by omega)
  have h4 : decide (c < 55296) = true := decide_eq_true h1
  go_enter Tryz.func111, Tryz.ntmps111
  go_wp2
  go_ret
  exact ⟨rfl, rfl⟩
theorem is_yes2 (c : Int) (w : World) (h0 : 0 ≤ c) (h1 : c ≤ 1114111) (h2 : 57343 < c) : Calls Tryz.prog 111 #[.int .i64 c] w fun e w' => e = .returned (.bool true) ∧ w = w' := by
  have h3 : decide (c ≤ 1114111) = true := decide_eq_true h1
  have h4 : decide (c < 55296) = false := decide_eq_false (by omega)
  have h5 : decide (57343 < c) = true := decide_eq_true h2
  clear h1 h2
  go_enter Tryz.func111, Tryz.ntmps111
  go_wp2
  go_ret
  exact ⟨rfl, rfl⟩
theorem is_no1 (c : Int) (w : World) (h0 : 0 ≤ c) (h1 : 1114111 < c) : Calls Tryz.prog 111 #[.int .i64 c] w fun e w' => e = .returned (.bool false) ∧ w = w' := by
  have h3 : decide (c ≤ 1114111) = false := decide_eq_false (by omega)
  clear h1
  go_enter Tryz.func111, Tryz.ntmps111
  go_wp2
  go_ret
  exact ⟨rfl, rfl⟩
theorem is_no2 (c : Int) (w : World) (h0 : 55296 ≤ c) (h1 : c ≤ 57343) : Calls Tryz.prog 111 #[.int .i64 c] w fun e w' => e = .returned (.bool false) ∧ w = w' := by
  have h2 : 0 ≤ c := by omega
  have h3 : decide (c ≤ 1114111) = true := decide_eq_true (by omega)
  have h4 : decide (c < 55296) = false := decide_eq_false (by omega)
  have h5 : decide (57343 < c) = false := decide_eq_false (by omega)
  clear h0 h1
  go_enter Tryz.func111, Tryz.ntmps111
  go_wp2
  go_ret
  exact ⟨rfl, rfl⟩
theorem is_yes (c : Nat) (w : World) (h : isN c) : Calls Tryz.prog 111 #[.int .i64 c] w fun e w' => e = .returned (.bool true) ∧ w = w' := by
  obtain ⟨h1, h2 | h2⟩ := isI c h
  · exact is_yes1 c w (by omega) h2
  · exact is_yes2 c w (by omega) h1 h2
theorem is_no (c : Nat) (w : World) (h : ¬ isN c) : Calls Tryz.prog 111 #[.int .i64 c] w fun e w' => e = .returned (.bool false) ∧ w = w' := by
  rcases notI c h with h1 | ⟨_, h2, h3⟩
  · exact is_no1 c w (by omega) h1
  · exact is_no2 c w h2 h3
end Go.Proofs.YtobnmpgfkgoapaaGreatDoor
