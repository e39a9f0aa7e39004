import Derived.Test.YtnbccoelbfgmgaaGreatDoorZ02
import Derived.Laws.Cover4
import Derived.Lib.MapLaws
import Derived.Lib.TrimUEq
import Derived.Test.YtnbccoelbfgmgaaGreatDoorZ00
import Derived.Test.YtnbccoelbfgmgaaGreatDoorZ01
import Derived.IntWalk
import Derived.Lib.SliceRun
import Derived.BigRegion
import Derived.RegionTactic
import Derived.ChangeAlike
/- Characters and their bytes: plain laws. -/
namespace Go.Proofs.YtnbccoelbfgmgaaGreatDoor
set_option linter.unusedVariables false
set_option linter.unusedSimpArgs false
/-- The bytes of characters, one behind the other. -/
def encL (cs : List Nat) : List UInt8 := cs.flatMap fun c : Nat => (Utf8.encode (c : Int)).data.toList
def encS (cs : List Nat) : ByteArray := runesBytes (cs.map fun c : Nat => (c : Int))
theorem encL_nil : encL [] = [] := rfl
theorem encL_cons (c : Nat) (cs : List Nat) : encL (c :: cs) = (Utf8.encode (c : Int)).data.toList ++ encL cs := rfl
theorem encL_append (a b : List Nat) : encL (a ++ b) = encL a ++ encL b := by unfold encL; rw [List.flatMap_append]
theorem runes_fold : ∀ (cs : List Nat) (s : ByteArray), ((cs.map fun c : Nat => (c : Int)).foldl (fun r n => r ++ Utf8.encode n) s).data.toList = s.data.toList ++ encL cs
  | [], s => by simp [encL]
  | c :: cs, s => by
    rw [List.map_cons, List.foldl_cons, runes_fold cs, encL_cons, ← List.append_assoc]
    simp
theorem encS_list (cs : List Nat) : (encS cs).data.toList = encL cs := by
  unfold encS runesBytes
  rw [runes_fold]; rfl
theorem bytes_ext {s t : ByteArray} (h : s.data.toList = t.data.toList) : s = t := by
  obtain ⟨a⟩ := s
  obtain ⟨b⟩ := t
  simp only [Array.toList_inj] at h
  rw [h]
theorem encS_append (a b : List Nat) : encS a ++ encS b = encS (a ++ b) := bytes_ext (by
  rw [encS_list, encL_append, ← encS_list, ← encS_list]; simp)
theorem encS_nil : encS [] = ByteArray.empty := rfl
theorem valid_isN {c : Nat} (h : isN c) : Utf8.valid (c : Int) = true := by
  unfold isN at h
  simp [Utf8.valid]; omega
theorem enc1 {c : Nat} (h : isN c) (h1 : c < 128) : (Utf8.encode (c : Int)).data.toList = [UInt8.ofNat c] := by
  simp [Utf8.encode, valid_isN h, h1]
theorem enc2 {c : Nat} (h : isN c) (h1 : ¬ c < 128) (h2 : c < 2048) : (Utf8.encode (c : Int)).data.toList = [UInt8.ofNat (192 + c / 64), UInt8.ofNat (128 + c % 64)] := by
  simp [Utf8.encode, valid_isN h, h1, h2]
theorem enc3 {c : Nat} (h : isN c) (h1 : ¬ c < 128) (h2 : ¬ c < 2048) (h3 : c < 65536) : (Utf8.encode (c : Int)).data.toList = [UInt8.ofNat (224 + c / 4096), UInt8.ofNat (128 + c / 64 % 64), UInt8.ofNat (128 + c % 64)] := by
  simp [Utf8.encode, valid_isN h, h1, h2, h3]
theorem enc4 {c : Nat} (h : isN c) (h1 : ¬ c < 128) (h2 : ¬ c < 2048) (h3 : ¬ c < 65536) : (Utf8.encode (c : Int)).data.toList = [UInt8.ofNat (240 + c / 262144), UInt8.ofNat (128 + c / 4096 % 64), UInt8.ofNat (128 + c / 64 % 64), UInt8.ofNat (128 + c % 64)] := by
  simp [Utf8.encode, valid_isN h, h1, h2, h3]
theorem un8 (n : Nat) (h : n < 256) : (UInt8.ofNat n).toNat = n := by rw [UInt8.toNat_ofNat']; omega
/-- What an encoded character decodes to. -/
theorem dec_enc {c : Nat} (h : isN c) (rest : List UInt8) : Lib.decodeL ((Utf8.encode (c : Int)).data.toList ++ rest) = (c, (Utf8.encode (c : Int)).data.toList.length) ∧ 0 < (Utf8.encode (c : Int)).data.toList.length ∧ ¬ (c = 65533 ∧ (Utf8.encode (c : Int)).data.toList.length = 1) := by
  have hb := h
  unfold isN at hb
  rw [Lib.decodeL_N]
  by_cases h1 : c < 128
  · rw [enc1 h h1]
    refine ⟨?_, by simp, by simp; omega⟩
    simp only [List.cons_append, List.nil_append, List.getD_cons_zero, un8 c (by omega)]
    unfold Lib.decodeN
    rw [if_pos h1]; rfl
  · by_cases h2 : c < 2048
    · rw [enc2 h h1 h2]
      refine ⟨?_, by simp, by simp⟩
      simp only [List.cons_append, List.nil_append, List.getD_cons_zero, List.getD_cons_succ, un8 (192 + c / 64) (by omega), un8 (128 + c % 64) (by omega), List.length_cons]
      unfold Lib.decodeN
      rw [if_neg (by omega), if_pos (by omega), if_pos (by omega)]
      rw [Prod.mk.injEq]; exact ⟨by omega, rfl⟩
    · by_cases h3 : c < 65536
      · rw [enc3 h h1 h2 h3]
        refine ⟨?_, by simp, by simp⟩
        simp only [List.cons_append, List.nil_append, List.getD_cons_zero, List.getD_cons_succ, un8 (224 + c / 4096) (by omega), un8 (128 + c / 64 % 64) (by omega), un8 (128 + c % 64) (by omega), List.length_cons]
        unfold Lib.decodeN
        rw [if_neg (by omega), if_neg (by omega), if_pos (by omega), if_pos (by omega)]
        rw [Prod.mk.injEq]; exact ⟨by omega, rfl⟩
      · rw [enc4 h h1 h2 h3]
        refine ⟨?_, by simp, by simp⟩
        simp only [List.cons_append, List.nil_append, List.getD_cons_zero, List.getD_cons_succ, un8 (240 + c / 262144) (by omega), un8 (128 + c / 4096 % 64) (by omega), un8 (128 + c / 64 % 64) (by omega), un8 (128 + c % 64) (by omega), List.length_cons]
        unfold Lib.decodeN
        rw [if_neg (by omega), if_neg (by omega), if_neg (by omega), if_pos (by omega), if_pos (by omega)]
        rw [Prod.mk.injEq]; exact ⟨by omega, rfl⟩
theorem pt_enc {c : Nat} (h : isN c) (rest : List UInt8) : ptL ((Utf8.encode (c : Int)).data.toList ++ rest) = (c, (Utf8.encode (c : Int)).data.toList.length) := by
  obtain ⟨h1, h2, h3⟩ := dec_enc h rest
  rcases ptL_decode ((Utf8.encode (c : Int)).data.toList ++ rest) with ⟨_, g⟩ | ⟨_, g, _⟩
  · rw [h1, Prod.mk.injEq] at g; exact absurd g h3
  · rw [g, h1]
theorem enc_ne {c : Nat} (h : isN c) (rest : List UInt8) : (Utf8.encode (c : Int)).data.toList ++ rest ≠ [] := by
  have := (dec_enc h rest).2.1
  intro e
  rw [List.append_eq_nil_iff] at e
  rw [e.1] at this; simp at this
/-- Characters are what their bytes decode to. -/
theorem chars_enc : ∀ cs : List Nat, (∀ c ∈ cs, isN c) → charsD (encL cs) = some cs
  | [], _ => rfl
  | c :: cs, h => by
    have hc := h c (by simp)
    rw [encL_cons, charsD_step _ (enc_ne hc _), pt_enc hc, if_neg (by have := (dec_enc hc []).2.1; simp only; omega)]
    simp only [List.drop_left']
    rw [chars_enc cs fun d hd => h d (by simp [hd])]; rfl
set_option maxRecDepth 100000 in
theorem ptL_isN (l : List UInt8) (h : 0 < (ptL l).2) : isN (ptL l).1 := by
  unfold ptL ptN at h ⊢
  generalize bAt l 0 = b0 at *
  generalize bAt l 1 = b1 at *
  generalize bAt l 2 = b2 at *
  generalize bAt l 3 = b3 at *
  by_cases a1 : b0 < 128
  · rw [if_pos a1]; unfold isN; simp only; omega
  · rw [if_neg a1] at h ⊢
    by_cases a2 : (194 ≤ b0 ∧ b0 < 224) ∧ tlN l.length 1 b1
    · rw [if_pos a2]; unfold isN c2N; unfold tlN at a2; simp only; clear h; omega
    · rw [if_neg a2] at h ⊢
      by_cases a3 : (224 ≤ b0 ∧ b0 < 240) ∧ tlN l.length 1 b1 ∧ tlN l.length 2 b2
      · rw [if_pos a3] at h ⊢
        by_cases a4 : 2048 ≤ c3N b0 b1 b2 ∧ isN (c3N b0 b1 b2)
        · rw [if_pos a4]; exact a4.2
        · rw [if_neg a4] at h; simp at h
      · rw [if_neg a3] at h ⊢
        by_cases a4 : (240 ≤ b0 ∧ b0 < 245) ∧ tlN l.length 1 b1 ∧ tlN l.length 2 b2 ∧ tlN l.length 3 b3
        · rw [if_pos a4] at h ⊢
          by_cases a5 : 65536 ≤ c4N b0 b1 b2 b3 ∧ isN (c4N b0 b1 b2 b3)
          · rw [if_pos a5]; exact a5.2
          · rw [if_neg a5] at h; simp at h
        · rw [if_neg a4] at h; simp at h
theorem encR_eq {c : Nat} (h : isN c) : Lib.encodeRune (c : Int) = (Utf8.encode (c : Int)).data.toList := by
  have hb := h
  unfold isN at hb
  unfold Lib.encodeRune
  by_cases h1 : c < 128
  · rw [enc1 h h1, Lib.encodeRuneZ_one (by omega) (by omega)]; rfl
  · by_cases h2 : c < 2048
    · rw [enc2 h h1 h2, Lib.encodeRuneZ_two (by omega) (by omega)]
      simp only [List.map_cons, List.map_nil]
      rw [show (192 + (c : Int) / 64).toNat = 192 + c / 64 by omega, show (128 + (c : Int) % 64).toNat = 128 + c % 64 by omega]
    · by_cases h3 : c < 65536
      · rw [enc3 h h1 h2 h3, Lib.encodeRuneZ_three (by omega)]
        simp only [List.map_cons, List.map_nil]
        rw [show (224 + (c : Int) / 4096).toNat = 224 + c / 4096 by omega, show (128 + (c : Int) / 64 % 64).toNat = 128 + c / 64 % 64 by omega, show (128 + (c : Int) % 64).toNat = 128 + c % 64 by omega]
      · rw [enc4 h h1 h2 h3, Lib.encodeRuneZ_four (by omega) (by omega)]
        simp only [List.map_cons, List.map_nil]
        rw [show (240 + (c : Int) / 262144).toNat = 240 + c / 262144 by omega, show (128 + (c : Int) / 4096 % 64).toNat = 128 + c / 4096 % 64 by omega, show (128 + (c : Int) / 64 % 64).toNat = 128 + c / 64 % 64 by omega, show (128 + (c : Int) % 64).toNat = 128 + c % 64 by omega]
/-- Bytes are what their characters encode to. -/
theorem enc_chars : ∀ (n : Nat) (l : List UInt8) (cs : List Nat), l.length ≤ n → charsD l = some cs → encL cs = l ∧ ∀ c ∈ cs, isN c
  | 0, l, cs, hn, h => by
    have : l = [] := List.eq_nil_of_length_eq_zero (by omega)
    subst this
    rw [charsD_nil] at h; cases h
    exact ⟨rfl, by simp⟩
  | n + 1, l, cs, hn, h => by
    by_cases hne : l = []
    · subst hne
      rw [charsD_nil] at h; cases h
      exact ⟨rfl, by simp⟩
    · rw [charsD_step l hne] at h
      by_cases h0 : (ptL l).2 = 0
      · rw [if_pos h0] at h; cases h
      · rw [if_neg h0] at h
        cases hd : charsD (l.drop (ptL l).2) with
        | none => rw [hd] at h; cases h
        | some cs' =>
          rw [hd] at h
          simp only [Option.map_some, Option.some.injEq] at h
          subst h
          have hN := ptL_isN l (by omega)
          obtain ⟨h1, h2⟩ := enc_chars n (l.drop (ptL l).2) cs' (by rw [List.length_drop]; have := List.length_pos_iff.2 hne; omega) hd
          refine ⟨?_, fun c hc => ?_⟩
          · rw [encL_cons, h1, ← encR_eq hN]
            rcases ptL_decode l with ⟨g, _⟩ | ⟨_, g, g2⟩
            · rw [g] at h0; simp at h0
            · rw [g, Lib.encode_decode l hne g2, List.take_append_drop]
          · rcases List.mem_cons.1 hc with rfl | hc
            · exact hN
            · exact h2 c hc
/-- The characters of a string (none if it is not valid). -/
def chrs (s : ByteArray) : List Nat := (charsD s.data.toList).getD []
theorem chrs_isN (s : ByteArray) : ∀ c ∈ chrs s, isN c := by
  unfold chrs
  cases h : charsD s.data.toList with
  | none => simp
  | some cs => exact (enc_chars _ _ cs (Nat.le_refl _) h).2
theorem encS_chrs {s : ByteArray} (h : (charsD s.data.toList).isSome = true) : encS (chrs s) = s := by
  unfold chrs
  cases hc : charsD s.data.toList with
  | none => rw [hc] at h; cases h
  | some cs => exact bytes_ext (by rw [encS_list]; exact (enc_chars _ _ cs (Nat.le_refl _) hc).1)
theorem chrs_encS {cs : List Nat} (h : ∀ c ∈ cs, isN c) : chrs (encS cs) = cs ∧ (charsD (encS cs).data.toList).isSome = true := by
  unfold chrs
  rw [encS_list, chars_enc cs h]; exact ⟨rfl, rfl⟩
theorem chrs_len (s : ByteArray) : (chrs s).length ≤ s.size := by
  unfold chrs
  cases h : charsD s.data.toList with
  | none => simp
  | some cs =>
    have := chars_len _ _ cs (Nat.le_refl _) h
    simpa using this
/-- One step of a range over a valid string. -/
theorem decode_step {s : ByteArray} {pos : Nat} {cs : List Nat} (hp : pos < s.size) (h : charsD (s.data.toList.drop pos) = some cs) :
    ∃ c t, cs = c :: t ∧ (Utf8.decode s pos).1 = c ∧ 0 < (Utf8.decode s pos).2 ∧ pos + (Utf8.decode s pos).2 ≤ s.size ∧ charsD (s.data.toList.drop (pos + (Utf8.decode s pos).2)) = some t ∧ isN c := by
  have hne : s.data.toList.drop pos ≠ [] := fun e => by
    have := congrArg List.length e
    rw [List.length_drop] at this; simp at this; omega
  rw [charsD_step _ hne] at h
  by_cases h0 : (ptL (s.data.toList.drop pos)).2 = 0
  · rw [if_pos h0] at h; cases h
  · rw [if_neg h0] at h
    have hb := ptL_bound _ hne
    have hN := ptL_isN _ (Nat.pos_of_ne_zero h0)
    rcases ptL_decode (s.data.toList.drop pos) with ⟨g, _⟩ | ⟨_, g, _⟩
    · rw [g] at h0; simp at h0
    · rw [Lib.decodeL_drop] at g
      rw [g] at h h0 hb hN
      cases hd : charsD ((s.data.toList.drop pos).drop (Utf8.decode s pos).2) with
      | none => rw [hd] at h; cases h
      | some t =>
        rw [hd] at h
        simp only [Option.map_some, Option.some.injEq] at h
        rw [List.drop_drop] at hd
        rw [List.length_drop] at hb
        refine ⟨_, t, h.symm, rfl, by omega, ?_, hd, hN⟩
        have := hb.1
        simp at this
        omega
end Go.Proofs.YtnbccoelbfgmgaaGreatDoor
/- A text with a gap, in memory; none, Size, rune, Char, span, Find, FindBack. -/
namespace Go.Proofs.YtnbccoelbfgmgaaGreatDoor
open Go.RowKit
set_option linter.unusedVariables false
set_option linter.unusedSimpArgs false

/-- The text object at block t, with its characters in block g: cs. -/
structure GapI (w : World) (t g : Nat) (B : List Int) (cap st en : Nat) (cs : List Nat) : Prop where
  c0 : w.cell? ⟨t, 0, none⟩ = some (.slice (some ⟨g, 0, none⟩) B.length cap)
  c1 : w.cell? ⟨t, 1, none⟩ = some (.int .i64 st)
  c2 : w.cell? ⟨t, 2, none⟩ = some (.int .i64 en)
  hc : B.length ≤ cap
  hm : B.length ≤ 1000000
  hg : g < w.heap.size
  hb : ∀ (i : Nat) (z : Int), B[i]? = some z → w.cell? ⟨g, i, none⟩ = some (.int .i32 z)
  h1 : st ≤ en
  h2 : en ≤ B.length
  hB : B.take st ++ B.drop en = cs.map Int.ofNat
  hn : ∀ c ∈ cs, isN c
def GapR (w : World) (t g : Nat) (cs : List Nat) : Prop := ∃ B cap st en, GapI w t g B cap st en cs
section
variable {w w' : World} {t g cap st en : Nat} {B : List Int} {cs : List Nat}
theorem GapI.lt (h : GapI w t g B cap st en cs) : t < w.heap.size := lt_of_cell h.c0
theorem GapI.kept (h : GapI w t g B cap st en cs) (ht : w'.heap[t]? = w.heap[t]?) (hg : w'.heap[g]? = w.heap[g]?) (hs : w.heap.size ≤ w'.heap.size) : GapI w' t g B cap st en cs :=
  ⟨(World.cell?_of_block (w := w) (a := ⟨t, 0, none⟩) ht).trans h.c0, (World.cell?_of_block (w := w) (a := ⟨t, 1, none⟩) ht).trans h.c1, (World.cell?_of_block (w := w) (a := ⟨t, 2, none⟩) ht).trans h.c2, h.hc, h.hm, Nat.lt_of_lt_of_le h.hg hs,
    fun i z hz => (World.cell?_of_block (w := w) (a := ⟨g, i, none⟩) hg).trans (h.hb i z hz), h.h1, h.h2, h.hB, h.hn⟩
theorem GapI.up (h : GapI w t g B cap st en cs) (hb : Below w.heap.size w w') : GapI w' t g B cap st en cs := h.kept (hb.block t h.lt) (hb.block g h.hg) hb.size
theorem GapR.up (h : GapR w t g cs) (hb : Below w.heap.size w w') : GapR w' t g cs := by obtain ⟨B, cap, st, en, h⟩ := h; exact ⟨B, cap, st, en, h.up hb⟩
theorem GapR.kept (h : GapR w t g cs) (ht : w'.heap[t]? = w.heap[t]?) (hg : w'.heap[g]? = w.heap[g]?) (hs : w.heap.size ≤ w'.heap.size) : GapR w' t g cs := by obtain ⟨B, cap, st, en, h⟩ := h; exact ⟨B, cap, st, en, h.kept ht hg hs⟩
theorem GapI.len (h : GapI w t g B cap st en cs) : cs.length + (en - st) = B.length := by
  have e := congrArg List.length h.hB
  rw [List.length_append, List.length_take, List.length_drop, List.length_map] at e
  have := h.h1; have := h.h2; omega
theorem GapR.len (h : GapR w t g cs) : cs.length ≤ 1000000 := by
  obtain ⟨B, cap, st, en, h⟩ := h
  have := h.len; have := h.hc; have := h.hm; omega
theorem GapI.at_ (h : GapI w t g B cap st en cs) {i : Nat} (hi : i < cs.length) : w.cell? ⟨g, (if i < st then i else i + (en - st)), none⟩ = some (.int .i32 (cs.getD i 0 : Nat)) := by
  have hl := h.len
  have h1 := h.h1; have h2 := h.h2
  have e : (B.take st ++ B.drop en)[i]? = some ((cs.getD i 0 : Nat) : Int) := by
    rw [h.hB, List.getElem?_map, List.getD_eq_getElem?_getD, List.getElem?_eq_getElem hi]; rfl
  by_cases hs : i < st
  · rw [if_pos hs]
    rw [List.getElem?_append_left (by rw [List.length_take]; omega), List.getElem?_take_of_lt hs] at e
    exact h.hb i _ e
  · rw [if_neg hs]
    rw [List.getElem?_append_right (by rw [List.length_take]; omega), List.length_take, List.getElem?_drop, show en + (i - min st B.length) = i + (en - st) by omega] at e
    exact h.hb _ _ e
theorem GapI.chr_bound (h : GapI w t g B cap st en cs) (i : Nat) : cs.getD i 0 ≤ 1114111 := by
  rw [List.getD_eq_getElem?_getD]
  cases e : cs[i]? with
  | none => simp
  | some c => exact (h.hn c (List.mem_of_getElem? e)).1

set_option maxRecDepth 100000 in
set_option maxHeartbeats 1000000 in
theorem gnone (h : GapI w t g B cap st en cs) : Calls Tryz.prog 109 #[.pointer (some ⟨t, 0, none⟩)] w fun e w' => e = .returned (.bool false) ∧ w = w' := by
  have c0 := h.c0
  have hn := Lib.run_eql_slice_nil (P := Tryz.prog) w 162 21 (some ⟨g, 0, none⟩) B.length cap 0 0 Tryz.underlying162
  clear h
  go_enter Tryz.func109, Tryz.ntmps109
  go_wp2_with fail
  go_ret
  exact ⟨rfl, rfl⟩
set_option maxHeartbeats 1000000 in
theorem gsize (h : GapR w t g cs) : Calls Tryz.prog 61 #[.pointer (some ⟨t, 0, none⟩)] w fun e w' => e = .returned (.int .i64 cs.length) ∧ Below w.heap.size w w' := by
  obtain ⟨B, cap, st, en, h⟩ := h
  have c0 := h.c0
  have c1 := h.c1
  have c2 := h.c2
  have hl := h.len
  have h1 := h.h1
  have h2 := h.h2
  have h3 := h.hc
  have h4 := h.hm
  have s1 : IntKind.i64.wrap ((en : Int) - (st : Int)) = (en : Int) - (st : Int) := IntWalk.i64_in _ (by omega)
  have s2 : IntKind.i64.wrap ((B.length : Int) - ((en : Int) - (st : Int))) = (cs.length : Int) := by rw [IntWalk.i64_in _ (by omega)]; omega
  have HN := Lib.hid (gnone h)
  clear h hl h1 h2 h3 h4
  go_enter Tryz.func61, Tryz.ntmps61
  go_wp2_with fail
  refine HN.out.mono ?_
  rintro e w' ⟨rfl, rfl⟩
  go_wp2_with fail
  go_region
  go_wp2_with fail
  go_ret
  exact ⟨rfl, (Below.refl _ w).drew⟩
set_option maxHeartbeats 1000000 in
theorem grune (h : GapR w t g cs) (i : Nat) (hi : i < cs.length) : Calls Tryz.prog 211 #[.pointer (some ⟨t, 0, none⟩), .int .i64 i] w fun e w' => e = .returned (.int .i32 (cs.getD i 0 : Nat)) ∧ Below w.heap.size w w' := by
  obtain ⟨B, cap, st, en, h⟩ := h
  have c0 := h.c0
  have c1 := h.c1
  have c2 := h.c2
  have hl := h.len
  have h1 := h.h1
  have h2 := h.h2
  have h3 := h.hc
  have h4 := h.hm
  have ha := h.at_ hi
  have hcb := h.chr_bound i
  by_cases hs : i < st
  · rw [if_pos hs] at ha
    have d1 : decide ((st : Int) ≤ i) = false := decide_eq_false (by omega)
    have hi' : (i : Int) < B.length := by omega
    clear h hl hi
    go_enter Tryz.func211, Tryz.ntmps211
    go_wp2_with fail
    go_ret
    exact ⟨rfl, Below.refl _ w⟩
  · rw [if_neg hs] at ha
    have d1 : decide ((st : Int) ≤ i) = true := decide_eq_true (by omega)
    have s1 : IntKind.i64.wrap ((en : Int) - (st : Int)) = ((en - st : Nat) : Int) := by rw [IntWalk.i64_in _ (by omega)]; omega
    have s2 : IntKind.i64.wrap ((i : Int) + ((en - st : Nat) : Int)) = ((i + (en - st) : Nat) : Int) := by rw [IntWalk.i64_in _ (by omega)]; omega
    have hi' : ((i + (en - st) : Nat) : Int) < B.length := by omega
    have hi'' : i + (en - st) < B.length := by omega
    generalize i + (en - st) = k at *
    generalize en - st = gp at *
    clear h hl hi
    go_enter Tryz.func211, Tryz.ntmps211
    go_wp2_with fail
    go_region
    go_wp2_with fail
    go_ret
    exact ⟨rfl, (Below.refl _ w).drew⟩
theorem chr_get (cs : List Nat) (k : Nat) : cs.getD k 0 = chr cs (k + 1) := by unfold chr; rw [Nat.add_sub_cancel]
/-- Handed back by Char. -/
def charV (cs : List Nat) (at_ : Nat) : Value := if 1 ≤ at_ ∧ at_ ≤ cs.length then .tuple #[.int .i64 (chr cs at_ : Nat), .bool true] else .tuple #[.int .i64 0, .bool false]
theorem chr_cap (h : GapR w t g cs) (i : Nat) : chr cs i ≤ 1114111 := by obtain ⟨B, cap, st, en, h⟩ := h; exact h.chr_bound _
set_option maxHeartbeats 1000000 in
theorem gchar (h : GapR w t g cs) (k : Nat) (hk : k < cs.length) : Calls Tryz.prog 161 #[.pointer (some ⟨t, 0, none⟩), .int .i64 (k + 1 : Nat)] w fun e w' => e = .returned (.tuple #[.int .i64 (chr cs (k + 1) : Nat), .bool true]) ∧ Below w.heap.size w w' := by
  have hl := h.len
  have hcb := chr_cap h (k + 1)
  have HS := Lib.hid (gsize h)
  have HR : Hid (∀ w1, Below w.heap.size w w1 → _) := Lib.hid (fun w1 (hb : Below w.heap.size w w1) => grune (h.up hb) k hk)
  rw [chr_get] at HR
  have d1 : decide (((k + 1 : Nat) : Int) < 1) = false := decide_eq_false (by omega)
  have d2 : decide ((cs.length : Int) < ((k + 1 : Nat) : Int)) = false := decide_eq_false (by omega)
  have s1 : IntKind.i64.wrap (((k + 1 : Nat) : Int) - 1) = (k : Int) := by rw [IntWalk.i64_in _ (by omega)]; omega
  generalize chr cs (k + 1) = c at *
  generalize ((k + 1 : Nat) : Int) = q at *
  clear h hk
  go_enter Tryz.func161, Tryz.ntmps161
  go_wp2_with fail
  refine HS.out.mono ?_
  rintro e w1 ⟨rfl, hb1⟩
  go_wp2_with fail
  refine (HR.out w1 hb1).mono ?_
  rintro e w2 ⟨rfl, hb2⟩
  go_wp2_with fail
  go_ret2
  exact ⟨rfl, up2 hb1 hb2⟩
theorem gchar_no (h : GapR w t g cs) (q : Int) (hk : q < 1 ∨ (cs.length : Int) < q) : Calls Tryz.prog 161 #[.pointer (some ⟨t, 0, none⟩), .int .i64 q] w fun e w' => e = .returned (.tuple #[.int .i64 0, .bool false]) ∧ Below w.heap.size w w' := by
  have hl := h.len
  have HS := Lib.hid (gsize h)
  clear h
  by_cases h1 : q < 1
  · have d1 : decide (q < 1) = true := decide_eq_true h1
    clear hk
    go_enter Tryz.func161, Tryz.ntmps161
    go_wp2_with fail
    go_ret2
    exact ⟨rfl, Below.refl _ w⟩
  · have d1 : decide (q < 1) = false := decide_eq_false h1
    have d2 : decide ((cs.length : Int) < q) = true := decide_eq_true (by omega)
    clear hk
    go_enter Tryz.func161, Tryz.ntmps161
    go_wp2_with fail
    refine HS.out.mono ?_
    rintro e w1 ⟨rfl, hb1⟩
    go_wp2_with fail
    go_ret2
    exact ⟨rfl, hb1⟩
/-- The first line feed (or whatever character) from a position on. -/
def FindP (w : World) (cs : List Nat) (c lo hi : Nat) (e : Ending) (w' : World) : Prop := Below w.heap.size w w' ∧
  ((∃ i, lo ≤ i ∧ i < hi ∧ chr cs i = c ∧ (∀ j, lo ≤ j → j < i → chr cs j ≠ c) ∧ e = .returned (.tuple #[.int .i64 i, .bool true])) ∨ ((∀ j, lo ≤ j → j < hi → chr cs j ≠ c) ∧ e = .returned (.tuple #[.int .i64 0, .bool false])))
def FindBackP (w : World) (cs : List Nat) (c lo hi : Nat) (e : Ending) (w' : World) : Prop := Below w.heap.size w w' ∧
  ((∃ i, lo ≤ i ∧ i < hi ∧ chr cs i = c ∧ (∀ j, i < j → j < hi → chr cs j ≠ c) ∧ e = .returned (.tuple #[.int .i64 i, .bool true])) ∨ ((∀ j, lo ≤ j → j < hi → chr cs j ≠ c) ∧ e = .returned (.tuple #[.int .i64 0, .bool false])))
def intOf : Value → Int
  | .int _ n => n
  | _ => 0
set_option maxRecDepth 100000 in
set_option maxHeartbeats 2000000 in
theorem gfind (h : GapR w t g cs) (c lo hi : Nat) (h1 : 1 ≤ lo) (h2 : hi ≤ cs.length + 1) (h3 : lo ≤ cs.length + 1) : Calls Tryz.prog 265 #[.pointer (some ⟨t, 0, none⟩), .int .i64 c, .int .i64 lo, .int .i64 hi] w (FindP w cs c lo hi) := by
  have hl := h.len
  have HG := Lib.hid h
  have m1 : max (lo : Int) 1 = lo := by omega
  have m2 : min (hi : Int) ((cs.length : Int) + 1) = hi := by omega
  have s1 : IntKind.i64.wrap ((cs.length : Int) + 1) = (cs.length : Int) + 1 := IntWalk.i64_in _ (by omega)
  clear h
  go_enter Tryz.func265, Tryz.ntmps265
  go_wp2_with fail
  go_loopw [10] (fun va wr => ∃ k : Nat, lo ≤ k ∧ k ≤ cs.length + 1 ∧ va = .int .i64 k ∧ (∀ j, lo ≤ j → j < k → chr cs j ≠ c) ∧ Below w.heap.size w wr) (fun va _ => cs.length + 2 - (intOf va).toNat)
  case atStart => exact ⟨lo, Nat.le_refl _, h3, rfl, fun j h h2 => by omega, Below.refl _ w⟩
  case round =>
    obtain ⟨k, hk1, hk2, rfl, hno, hbel⟩ := hrel
    have HNO := Lib.hid hno
    have HB := Lib.hid hbel
    have HS := Lib.hid (gsize (HG.out.up hbel))
    clear hno hbel
    by_cases hlt : k < hi
    · have d1 : decide ((k : Int) < hi) = true := decide_eq_true (by omega)
      obtain ⟨q, rfl⟩ : ∃ q, k = q + 1 := ⟨k - 1, by omega⟩
      have s2 : IntKind.i64.wrap (((q + 1 : Nat) : Int) - 1) = (q : Int) := by rw [IntWalk.i64_in _ (by omega)]; omega
      have HR : Hid (∀ w1, Below wr.heap.size wr w1 → _) := Lib.hid (fun w1 (hb : Below wr.heap.size wr w1) => grune ((HG.out.up HB.out).up hb) q (by omega))
      rw [chr_get] at HR
      have hcb := chr_cap HG.out (q + 1)
      have HQ : Hid (chr cs (q + 1) = chr cs (q + 1)) := Lib.hid rfl
      generalize hc : chr cs (q + 1) = x at HR hcb HQ
      have HC := Lib.hid hc
      have s3 : IntKind.i64.wrap (((q + 1 : Nat) : Int) + 1) = ((q + 1 + 1 : Nat) : Int) := by rw [IntWalk.i64_in _ (by omega)]; omega
      have hk3 : q + 1 + 1 ≤ cs.length + 1 := by omega
      clear hc HQ h2 h3 hk2
      by_cases hxc : x = c
      · have d2 : ((x : Int) == (c : Int)) = true := by simp [hxc]
        go_wp2_with fail
        refine HS.out.mono ?_
        rintro e w1 ⟨rfl, hb1⟩
        go_wp2_with fail
        refine (HR.out w1 hb1).mono ?_
        rintro e w2 ⟨rfl, hb2⟩
        go_wp2_with fail
        go_ret2
        exact ⟨up2 HB.out (up2 hb1 hb2), .inl ⟨q + 1, hk1, hlt, HC.out.trans hxc, HNO.out, rfl⟩⟩
      · have d2 : ((x : Int) == (c : Int)) = false := by simp; omega
        go_wp2_with fail
        refine HS.out.mono ?_
        rintro e w1 ⟨rfl, hb1⟩
        go_wp2_with fail
        refine (HR.out w1 hb1).mono ?_
        rintro e w2 ⟨rfl, hb2⟩
        go_wp2_with fail
        go_roundw
        case rel =>
          refine ⟨q + 1 + 1, by omega, hk3, by go_num, fun j hj hj2 => ?_, up2 HB.out (up2 hb1 hb2)⟩
          by_cases e : j = q + 1
          · rw [e, HC.out]; exact hxc
          · exact HNO.out j hj (by omega)
        case measure => simp [intOf]; omega
    · have d1 : decide ((k : Int) < hi) = false := decide_eq_false (by omega)
      go_wp2_with fail
      refine HS.out.mono ?_
      rintro e w1 ⟨rfl, hb1⟩
      go_wp2_with fail
      go_ret2
      exact ⟨up2 HB.out hb1, .inr ⟨fun j hj hj2 => HNO.out j hj (by omega), rfl⟩⟩
set_option maxRecDepth 100000 in
set_option maxHeartbeats 2000000 in
theorem gfindback (h : GapR w t g cs) (c lo hi : Nat) (h1 : 1 ≤ lo) (h2 : hi ≤ cs.length + 1) (h3 : 1 ≤ hi) : Calls Tryz.prog 163 #[.pointer (some ⟨t, 0, none⟩), .int .i64 c, .int .i64 lo, .int .i64 hi] w (FindBackP w cs c lo hi) := by
  have hl := h.len
  have HG := Lib.hid h
  have m1 : max (lo : Int) 1 = lo := by omega
  have m3 : max (hi : Int) 1 = hi := by omega
  have m2 : min (hi : Int) ((cs.length : Int) + 1) = hi := by omega
  have s1 : IntKind.i64.wrap ((cs.length : Int) + 1) = (cs.length : Int) + 1 := IntWalk.i64_in _ (by omega)
  have s0 : IntKind.i64.wrap ((hi : Int) - 1) = ((hi - 1 : Nat) : Int) := by rw [IntWalk.i64_in _ (by omega)]; omega
  have HS0 := Lib.hid (gsize h)
  clear h
  go_enter Tryz.func163, Tryz.ntmps163
  go_wp2_with fail
  refine HS0.out.mono ?_
  rintro e w0 ⟨rfl, hb0⟩
  have HB0 := Lib.hid hb0
  clear hb0
  go_wp2_with fail
  go_loopw [10] (fun va wr => ∃ k : Nat, k < hi ∧ va = .int .i64 k ∧ (∀ j, k < j → j < hi → chr cs j ≠ c) ∧ Below w.heap.size w wr) (fun va _ => (intOf va).toNat)
  case atStart => exact ⟨hi - 1, by omega, rfl, fun j h h2 => by omega, HB0.out⟩
  case round =>
    obtain ⟨k, hk1, rfl, hno, hbel⟩ := hrel
    have HNO := Lib.hid hno
    have HB := Lib.hid hbel
    clear hno hbel
    by_cases hlt : lo ≤ k
    · have d1 : decide ((lo : Int) ≤ k) = true := decide_eq_true (by omega)
      obtain ⟨q, rfl⟩ : ∃ q, k = q + 1 := ⟨k - 1, by omega⟩
      have s2 : IntKind.i64.wrap (((q + 1 : Nat) : Int) - 1) = (q : Int) := by rw [IntWalk.i64_in _ (by omega)]; omega
      have HR := Lib.hid (grune (HG.out.up HB.out) q (by omega))
      rw [chr_get] at HR
      have hcb := chr_cap HG.out (q + 1)
      have HQ : Hid (chr cs (q + 1) = chr cs (q + 1)) := Lib.hid rfl
      generalize hc : chr cs (q + 1) = x at HR hcb HQ
      have HC := Lib.hid hc
      clear hc HQ h2 h3
      by_cases hxc : x = c
      · have d2 : ((x : Int) == (c : Int)) = true := by simp [hxc]
        go_wp2_with fail
        refine HR.out.mono ?_
        rintro e w2 ⟨rfl, hb2⟩
        go_wp2_with fail
        go_ret2
        exact ⟨up2 HB.out hb2, .inl ⟨q + 1, hlt, hk1, HC.out.trans hxc, HNO.out, rfl⟩⟩
      · have d2 : ((x : Int) == (c : Int)) = false := by simp; omega
        go_wp2_with fail
        refine HR.out.mono ?_
        rintro e w2 ⟨rfl, hb2⟩
        go_wp2_with fail
        go_roundw
        case rel =>
          refine ⟨q, by omega, by first | rfl | go_num, fun j hj hj2 => ?_, up2 HB.out hb2⟩
          by_cases e : j = q + 1
          · rw [e, HC.out]; exact hxc
          · exact HNO.out j (by omega) hj2
        case measure => simp [intOf]
    · have d1 : decide ((lo : Int) ≤ k) = false := decide_eq_false (by omega)
      go_wp2_with fail
      go_ret2
      exact ⟨HB.out, .inr ⟨fun j hj hj2 => HNO.out j (by omega) hj2, rfl⟩⟩
end
end Go.Proofs.YtnbccoelbfgmgaaGreatDoor
/- A buffer in memory, read: none, Size, Point, Reach, Char, Find, FindBack. -/
namespace Go.Proofs.YtnbccoelbfgmgaaGreatDoor
open Go.RowKit
set_option linter.unusedVariables false
set_option linter.unusedSimpArgs false

/-- The buffer object at block b: point, the accessible part, the text. -/
structure BufI (w : World) (b t g : Nat) (cs : List Nat) (pt lo hi : Nat) : Prop where
  c0 : w.cell? ⟨b, 0, none⟩ = some (.int .i64 pt)
  c1 : w.cell? ⟨b, 1, none⟩ = some (.int .i64 lo)
  c2 : w.cell? ⟨b, 2, none⟩ = some (.int .i64 hi)
  c9 : w.cell? ⟨b, 9, none⟩ = some (.pointer (some ⟨t, 0, none⟩))
  gap : GapR w t g cs
  hbt : b ≠ t
  hbg : b ≠ g
  h1 : 1 ≤ lo
  h2 : lo ≤ pt
  h3 : pt ≤ hi
  h4 : hi ≤ cs.length + 1
def BufR (w : World) (b : Nat) (cs : List Nat) (pt lo hi : Nat) : Prop := ∃ t g, BufI w b t g cs pt lo hi
section
variable {w w' : World} {b t g pt lo hi : Nat} {cs : List Nat}
theorem BufI.lt (h : BufI w b t g cs pt lo hi) : b < w.heap.size := lt_of_cell h.c0
theorem BufI.up (h : BufI w b t g cs pt lo hi) (hb : Below w.heap.size w w') : BufI w' b t g cs pt lo hi :=
  have e := hb.block b h.lt
  ⟨(World.cell?_of_block (w := w) (a := ⟨b, 0, none⟩) e).trans h.c0, (World.cell?_of_block (w := w) (a := ⟨b, 1, none⟩) e).trans h.c1, (World.cell?_of_block (w := w) (a := ⟨b, 2, none⟩) e).trans h.c2, (World.cell?_of_block (w := w) (a := ⟨b, 9, none⟩) e).trans h.c9,
    h.gap.up hb, h.hbt, h.hbg, h.h1, h.h2, h.h3, h.h4⟩
theorem BufR.up (h : BufR w b cs pt lo hi) (hb : Below w.heap.size w w') : BufR w' b cs pt lo hi := by obtain ⟨t, g, h⟩ := h; exact ⟨t, g, h.up hb⟩
theorem BufR.lt (h : BufR w b cs pt lo hi) : b < w.heap.size := by obtain ⟨t, g, h⟩ := h; exact h.lt
theorem BufR.len (h : BufR w b cs pt lo hi) : cs.length ≤ 1000000 ∧ 1 ≤ lo ∧ lo ≤ pt ∧ pt ≤ hi ∧ hi ≤ cs.length + 1 := by obtain ⟨t, g, h⟩ := h; exact ⟨h.gap.len, h.h1, h.h2, h.h3, h.h4⟩
set_option maxHeartbeats 1000000 in
theorem bnone (h : BufR w b cs pt lo hi) : Calls Tryz.prog 57 #[.pointer (some ⟨b, 0, none⟩)] w fun e w' => e = .returned (.bool false) ∧ w = w' := by
  obtain ⟨t, g, h⟩ := h
  have c9 := h.c9
  clear h
  go_enter Tryz.func57, Tryz.ntmps57
  go_wp2_with fail
  go_ret
  exact ⟨rfl, rfl⟩
set_option maxHeartbeats 1000000 in
theorem bsize (h : BufR w b cs pt lo hi) : Calls Tryz.prog 28 #[.pointer (some ⟨b, 0, none⟩)] w fun e w' => e = .returned (.int .i64 cs.length) ∧ Below w.heap.size w w' := by
  have HN := Lib.hid (bnone h)
  obtain ⟨t, g, h⟩ := h
  have HS := Lib.hid (gsize h.gap)
  have c9 := h.c9
  clear h
  go_enter Tryz.func28, Tryz.ntmps28
  go_wp2_with fail
  refine HN.out.mono ?_
  rintro e w' ⟨rfl, rfl⟩
  go_wp2_with fail
  refine HS.out.mono ?_
  rintro e w' ⟨rfl, hb⟩
  go_wp2_with fail
  go_ret
  exact ⟨rfl, hb⟩
set_option maxHeartbeats 1000000 in
theorem bpoint (h : BufR w b cs pt lo hi) : Calls Tryz.prog 110 #[.pointer (some ⟨b, 0, none⟩)] w fun e w' => e = .returned (.int .i64 pt) ∧ w = w' := by
  have HN := Lib.hid (bnone h)
  obtain ⟨t, g, h⟩ := h
  have c0 := h.c0
  clear h
  go_enter Tryz.func110, Tryz.ntmps110
  go_wp2_with fail
  refine HN.out.mono ?_
  rintro e w' ⟨rfl, rfl⟩
  go_wp2_with fail
  go_ret
  exact ⟨rfl, rfl⟩
set_option maxHeartbeats 1000000 in
theorem breach (h : BufR w b cs pt lo hi) : Calls Tryz.prog 111 #[.pointer (some ⟨b, 0, none⟩)] w fun e w' => e = .returned (.tuple #[.int .i64 lo, .int .i64 hi]) ∧ Below w.heap.size w w' := by
  have HN := Lib.hid (bnone h)
  obtain ⟨t, g, h⟩ := h
  have c1 := h.c1
  have c2 := h.c2
  clear h
  go_enter Tryz.func111, Tryz.ntmps111
  go_wp2_with fail
  refine HN.out.mono ?_
  rintro e w' ⟨rfl, rfl⟩
  go_wp2_with fail
  go_region
  go_wp2_with fail
  go_ret2
  exact ⟨rfl, (Below.refl _ w).drew⟩
set_option maxHeartbeats 1000000 in
theorem bchar (h : BufR w b cs pt lo hi) (k : Nat) (h1 : 1 ≤ k) (hk : k ≤ cs.length) : Calls Tryz.prog 112 #[.pointer (some ⟨b, 0, none⟩), .int .i64 k] w fun e w' => e = .returned (.tuple #[.int .i64 (chr cs k : Nat), .bool true]) ∧ Below w.heap.size w w' := by
  have HN := Lib.hid (bnone h)
  obtain ⟨t, g, h⟩ := h
  obtain ⟨q, rfl⟩ : ∃ q, k = q + 1 := ⟨k - 1, by omega⟩
  have HS := Lib.hid (gchar h.gap q (by omega))
  have c9 := h.c9
  generalize ((q + 1 : Nat) : Int) = z at *
  clear h h1 hk
  go_enter Tryz.func112, Tryz.ntmps112
  go_wp2_with fail
  refine HN.out.mono ?_
  rintro e w' ⟨rfl, rfl⟩
  go_wp2_with fail
  refine HS.out.mono ?_
  rintro e w' ⟨rfl, hb⟩
  go_wp2_with fail
  go_ret2
  exact ⟨rfl, hb⟩
set_option maxHeartbeats 1000000 in
theorem bchar_no (h : BufR w b cs pt lo hi) (k : Int) (h1 : k < 1 ∨ (cs.length : Int) < k) : Calls Tryz.prog 112 #[.pointer (some ⟨b, 0, none⟩), .int .i64 k] w fun e w' => e = .returned (.tuple #[.int .i64 0, .bool false]) ∧ Below w.heap.size w w' := by
  have HN := Lib.hid (bnone h)
  obtain ⟨t, g, h⟩ := h
  have HS := Lib.hid (gchar_no h.gap k h1)
  have c9 := h.c9
  clear h h1
  go_enter Tryz.func112, Tryz.ntmps112
  go_wp2_with fail
  refine HN.out.mono ?_
  rintro e w' ⟨rfl, rfl⟩
  go_wp2_with fail
  refine HS.out.mono ?_
  rintro e w' ⟨rfl, hb⟩
  go_wp2_with fail
  go_ret2
  exact ⟨rfl, hb⟩
set_option maxHeartbeats 1000000 in
theorem bfind (h : BufR w b cs pt lo hi) (c l k : Nat) (h1 : 1 ≤ l) (h2 : k ≤ cs.length + 1) (h3 : l ≤ cs.length + 1) : Calls Tryz.prog 241 #[.pointer (some ⟨b, 0, none⟩), .int .i64 c, .int .i64 l, .int .i64 k] w (FindP w cs c l k) := by
  have HN := Lib.hid (bnone h)
  obtain ⟨t, g, h⟩ := h
  have HS := Lib.hid (gfind h.gap c l k h1 h2 h3)
  have c9 := h.c9
  clear h h1 h2 h3
  go_enter Tryz.func241, Tryz.ntmps241
  go_wp2_with fail
  refine HN.out.mono ?_
  rintro e w' ⟨rfl, rfl⟩
  go_wp2_with fail
  refine HS.out.mono ?_
  rintro e w' ⟨hb, h⟩
  have HB := Lib.hid hb
  clear hb
  rcases h with ⟨i, i1, i2, i3, i4, rfl⟩ | ⟨i1, rfl⟩
  · go_wp2_with fail
    go_ret2
    exact ⟨HB.out, .inl ⟨i, i1, i2, i3, i4, rfl⟩⟩
  · go_wp2_with fail
    go_ret2
    exact ⟨HB.out, .inr ⟨i1, rfl⟩⟩
set_option maxHeartbeats 1000000 in
theorem bfindback (h : BufR w b cs pt lo hi) (c l k : Nat) (h1 : 1 ≤ l) (h2 : k ≤ cs.length + 1) (h3 : 1 ≤ k) : Calls Tryz.prog 114 #[.pointer (some ⟨b, 0, none⟩), .int .i64 c, .int .i64 l, .int .i64 k] w (FindBackP w cs c l k) := by
  have HN := Lib.hid (bnone h)
  obtain ⟨t, g, h⟩ := h
  have HS := Lib.hid (gfindback h.gap c l k h1 h2 h3)
  have c9 := h.c9
  clear h h1 h2 h3
  go_enter Tryz.func114, Tryz.ntmps114
  go_wp2_with fail
  refine HN.out.mono ?_
  rintro e w' ⟨rfl, rfl⟩
  go_wp2_with fail
  refine HS.out.mono ?_
  rintro e w' ⟨hb, h⟩
  have HB := Lib.hid hb
  clear hb
  rcases h with ⟨i, i1, i2, i3, i4, rfl⟩ | ⟨i1, rfl⟩
  · go_wp2_with fail
    go_ret2
    exact ⟨HB.out, .inl ⟨i, i1, i2, i3, i4, rfl⟩⟩
  · go_wp2_with fail
    go_ret2
    exact ⟨HB.out, .inr ⟨i1, rfl⟩⟩
end
end Go.Proofs.YtnbccoelbfgmgaaGreatDoor
/- package column: after, the view's begin and end, tabbed. -/
namespace Go.Proofs.YtnbccoelbfgmgaaGreatDoor
open Go.RowKit
set_option linter.unusedVariables false
set_option linter.unusedSimpArgs false
/-- A view of a buffer, as a value. -/
abbrev vwV (b lo hi tab : Nat) : Value := .agg #[.pointer (some ⟨b, 0, none⟩), .int .i64 lo, .int .i64 hi, .int .i64 tab]
section
variable {w w' : World} {b pt lo hi : Nat} {cs : List Nat}
set_option maxHeartbeats 1000000 in
theorem after_ok (col c tab : Nat) (hc : isN c) (h1 : 1 ≤ tab) (h2 : tab ≤ 64) (h3 : col ≤ 100000000) (w : World) :
    Calls Tryz.prog 113 #[.int .i64 col, .int .i64 c, .int .i64 tab] w fun e w' => e = .returned (.int .i64 (afterN widN tab col c)) ∧ Below w.heap.size w w' := by
  unfold afterN
  by_cases h9 : c = 9
  · subst h9
    rw [if_pos rfl]
    have hm := Nat.mod_lt col (show 0 < tab by omega)
    have s1 : IntKind.i64.wrap ((col : Int) + (tab : Int)) = ((col + tab : Nat) : Int) := by rw [IntWalk.i64_in _ (by omega)]; omega
    have e2 : (Int.tmod (col : Int) (tab : Int)) = ((col % tab : Nat) : Int) := (Int.ofNat_tmod _ _).symm
    have s2 : IntKind.i64.wrap ((col % tab : Nat) : Int) = ((col % tab : Nat) : Int) := IntWalk.i64_in _ (by omega)
    generalize hM : col % tab = M at *
    have s3 : IntKind.i64.wrap (((col + tab : Nat) : Int) - (M : Int)) = ((col + tab - M : Nat) : Int) := by rw [IntWalk.i64_in _ (by omega)]; omega
    have d1 : decide ((tab : Int) = 0) = false := decide_eq_false (by omega)
    clear hM
    go_enter Tryz.func113, Tryz.ntmps113
    go_wp2_with fail
    go_ret
    exact ⟨ret_int (by omega), Below.refl _ w⟩
  · rw [if_neg h9]
    have HW := Lib.hid (width_ok c hc w)
    have hw := widN_le c
    have d1 : decide ((c : Int) = 9) = false := decide_eq_false (by omega)
    have s1 : IntKind.i64.wrap ((col : Int) + (widN c : Int)) = ((col + widN c : Nat) : Int) := by rw [IntWalk.i64_in _ (by omega)]; omega
    clear hw h1 h2 h3 hc
    go_enter Tryz.func113, Tryz.ntmps113
    go_wp2_with fail
    refine HW.out.mono ?_
    rintro e w' ⟨rfl, hb⟩
    go_wp2_with fail
    go_ret
    exact ⟨rfl, hb⟩
set_option maxHeartbeats 1000000 in
theorem tabbed_ok (tab : Nat) (h1 : 1 ≤ tab) (h2 : tab ≤ 64) (w : World) : Calls Tryz.prog 63 #[.int .i64 tab] w fun e w' => e = .returned (.bool true) ∧ w = w' := by
  have d1 : decide ((1 : Int) ≤ (tab : Int)) = true := decide_eq_true (by omega)
  have d2 : decide ((tab : Int) ≤ (64 : Int)) = true := decide_eq_true (by omega)
  clear h1 h2
  go_enter Tryz.func63, Tryz.ntmps63
  go_wp2_with fail
  go_ret
  exact ⟨rfl, rfl⟩
set_option maxHeartbeats 1000000 in
theorem vbegin (h : BufR w b cs pt lo hi) (tab k : Nat) (h1 : 1 ≤ lo) (h2 : lo ≤ k) (h3 : k ≤ hi) :
    Calls Tryz.prog 65 #[vwV b lo hi tab, .int .i64 k] w fun e w' => e = .returned (.int .i64 (lineB cs lo k)) ∧ Below w.heap.size w w' := by
  obtain ⟨R, hR⟩ : ∃ R, R = lineB cs lo k := ⟨_, rfl⟩
  rw [← hR]
  have HR := Lib.hid hR
  have hl := h.len
  have HH := Lib.hid h
  clear hR h
  go_enter Tryz.func65, Tryz.ntmps65
  go_wp2_with fail
  refine (bfindback (HH.out.up (below1 w _)) 10 lo k h1 (by omega) (by omega)).mono ?_
  rintro e w1 ⟨hb1, hf⟩
  have HB := Lib.hid (up2 (below1 w _) hb1)
  have v1 : w1.cell? ⟨w.heap.size, 1, none⟩ = some (.int .i64 lo) := by
    rw [World.cell?_of_block (hb1.block w.heap.size (by simp))]
    simp only [World.cell?, (MapKept.heap_alloc _ _).1]
    rfl
  clear hb1
  rcases hf with ⟨i, i1, i2, i3, i4, rfl⟩ | ⟨i1, rfl⟩
  · have s1 : IntKind.i64.wrap ((i : Int) + 1) = ((i + 1 : Nat) : Int) := by rw [IntWalk.i64_in _ (by omega)]; omega
    obtain rfl : R = i + 1 := HR.out.trans (lineB_eq k (i + 1) (by omega) (by omega) (fun j hj hk => i4 j (by omega) hk) (.inr ⟨by omega, i3⟩))
    go_wp2_with fail
    go_ret
    exact ⟨rfl, HB.out⟩
  · obtain rfl : R = lo := HR.out.trans (lineB_eq k lo (by omega) (by omega) i1 (.inl rfl))
    go_wp2_with fail
    go_ret
    exact ⟨rfl, HB.out⟩
theorem lineE_eq (cs : List Nat) (hi i e : Nat) (h1 : i ≤ e) (h2 : e ≤ hi) (h3 : ∀ j, i ≤ j → j < e → chr cs j ≠ 10) (h4 : e = hi ∨ chr cs e = 10) : lineE cs hi i = e := by
  have a1 := lineE_ge (cs := cs) (hi := hi) i
  have a2 := lineE_le (cs := cs) (hi := hi) i (by omega)
  have a4 := lineE_at (cs := cs) (hi := hi) i (by omega)
  rcases Nat.lt_trichotomy (lineE cs hi i) e with h | h | h
  · rcases a4 with a | ⟨_, a⟩
    · omega
    · exact absurd a (h3 _ a1 h)
  · exact h
  · rcases h4 with a | a
    · omega
    · exact absurd a (lineE_no (hi := hi) i e h1 h)
set_option maxHeartbeats 1000000 in
theorem vend (h : BufR w b cs pt lo hi) (tab k : Nat) (h1 : 1 ≤ k) (h3 : k ≤ hi) :
    Calls Tryz.prog 184 #[vwV b lo hi tab, .int .i64 k] w fun e w' => e = .returned (.int .i64 (lineE cs hi k)) ∧ Below w.heap.size w w' := by
  obtain ⟨R, hR⟩ : ∃ R, R = lineE cs hi k := ⟨_, rfl⟩
  rw [← hR]
  have HR := Lib.hid hR
  have hl := h.len
  have HH := Lib.hid h
  clear hR h
  go_enter Tryz.func184, Tryz.ntmps184
  go_wp2_with fail
  refine (bfind (HH.out.up (below1 w _)) 10 k hi h1 (by omega) (by omega)).mono ?_
  rintro e w1 ⟨hb1, hf⟩
  have HB := Lib.hid (up2 (below1 w _) hb1)
  have v1 : w1.cell? ⟨w.heap.size, 2, none⟩ = some (.int .i64 hi) := by
    rw [World.cell?_of_block (hb1.block w.heap.size (by simp))]
    simp only [World.cell?, (MapKept.heap_alloc _ _).1]
    rfl
  clear hb1
  rcases hf with ⟨i, i1, i2, i3, i4, rfl⟩ | ⟨i1, rfl⟩
  · obtain rfl : R = i := HR.out.trans (lineE_eq cs hi k i i1 (by omega) i4 (.inr i3))
    go_wp2_with fail
    go_ret
    exact ⟨rfl, HB.out⟩
  · obtain rfl : R = hi := HR.out.trans (lineE_eq cs hi k hi h3 (by omega) i1 (.inl rfl))
    go_wp2_with fail
    go_ret
    exact ⟨rfl, HB.out⟩
end
end Go.Proofs.YtnbccoelbfgmgaaGreatDoor
/- package column: the view's column and seek. -/
namespace Go.Proofs.YtnbccoelbfgmgaaGreatDoor
open Go.RowKit
set_option linter.unusedVariables false
set_option linter.unusedSimpArgs false
/-- A view that lies in block v. -/
structure VwI (w : World) (v b lo hi tab : Nat) : Prop where
  c0 : w.cell? ⟨v, 0, none⟩ = some (.pointer (some ⟨b, 0, none⟩))
  c1 : w.cell? ⟨v, 1, none⟩ = some (.int .i64 lo)
  c2 : w.cell? ⟨v, 2, none⟩ = some (.int .i64 hi)
  c3 : w.cell? ⟨v, 3, none⟩ = some (.int .i64 tab)
section
variable {w w' : World} {v b pt lo hi tab : Nat} {cs : List Nat}
theorem VwI.up (h : VwI w v b lo hi tab) (hb : Below w.heap.size w w') : VwI w' v b lo hi tab :=
  have e := hb.block v (lt_of_cell h.c0)
  ⟨(World.cell?_of_block (w := w) (a := ⟨v, 0, none⟩) e).trans h.c0, (World.cell?_of_block (w := w) (a := ⟨v, 1, none⟩) e).trans h.c1, (World.cell?_of_block (w := w) (a := ⟨v, 2, none⟩) e).trans h.c2, (World.cell?_of_block (w := w) (a := ⟨v, 3, none⟩) e).trans h.c3⟩
theorem VwI.made (w : World) (b lo hi tab : Nat) {T : TypeId} : VwI (w.alloc (.cells #[.pointer (some ⟨b, 0, none⟩), .int .i64 lo, .int .i64 hi, .int .i64 tab] T)) w.heap.size b lo hi tab := by
  have e := (MapKept.heap_alloc w (.cells #[.pointer (some ⟨b, 0, none⟩), .int .i64 lo, .int .i64 hi, .int .i64 tab] T)).1
  exact ⟨by simp only [World.cell?, e]; rfl, by simp only [World.cell?, e]; rfl, by simp only [World.cell?, e]; rfl, by simp only [World.cell?, e]; rfl⟩
theorem chr_isN (h : BufR w b cs pt lo hi) (k : Nat) (h1 : 1 ≤ k) (hk : k ≤ cs.length) : isN (chr cs k) := by
  obtain ⟨t, g, h⟩ := h
  obtain ⟨B, cap, st, en, hg⟩ := h.gap
  unfold chr
  rw [List.getD_eq_getElem?_getD, List.getElem?_eq_getElem (show k - 1 < cs.length by omega)]
  exact hg.hn _ (List.getElem_mem _)
theorem colN_small (ht : tab ≤ 64) (b i : Nat) (h : b ≤ i) (hi : i ≤ 1000001) : colN widN cs tab b i ≤ 100000000 := by
  have := colN_cap (cs := cs) (wid := widN) widN_le ht b i h
  omega
set_option maxHeartbeats 2000000 in
theorem vcolumn (h : BufR w b cs pt lo hi) (tab k : Nat) (ht1 : 1 ≤ tab) (ht2 : tab ≤ 64) (h2 : lo ≤ k) (h3 : k ≤ hi) :
    Calls Tryz.prog 64 #[vwV b lo hi tab, .int .i64 k] w fun e w' => e = .returned (.int .i64 (colN widN cs tab (lineB cs lo k) k)) ∧ Below w.heap.size w w' := by
  have hl := h.len
  have HH := Lib.hid h
  have hB1 : lo ≤ lineB cs lo k := lineB_ge k
  have hB2 : lineB cs lo k ≤ k := lineB_le k h2
  obtain ⟨R, hR⟩ : ∃ R, R = colN widN cs tab (lineB cs lo k) k := ⟨_, rfl⟩
  rw [← hR]
  have HR := Lib.hid hR
  clear hR h
  go_enter Tryz.func64, Tryz.ntmps64
  go_wp2_with fail
  have HB0 := below1 w (.cells #[.pointer (some ⟨b, 0, none⟩), .int .i64 lo, .int .i64 hi, .int .i64 tab] 109)
  have hv := VwI.made w b lo hi tab (T := 109)
  generalize w.alloc (.cells #[.pointer (some ⟨b, 0, none⟩), .int .i64 lo, .int .i64 hi, .int .i64 tab] 109) = W at *
  refine (vbegin (HH.out.up HB0) tab k hl.2.1 h2 h3).mono ?_
  rintro e w1 ⟨rfl, hb1⟩
  have HV := Lib.hid (hv.up hb1)
  have HB1 := Lib.hid (up2 HB0 hb1)
  clear hv hb1 HB0
  generalize lineB cs lo k = B at *
  go_wp2_with fail
  go_loopw [5, 6, 7, 8] (fun va vb vc vd wr => ∃ i : Nat, B ≤ i ∧ i ≤ k ∧ va = .int .i64 (colN widN cs tab B i) ∧ vb = .int .i64 i ∧ Below w.heap.size w wr ∧ Below w1.heap.size w1 wr) (fun _ vb _ _ _ => k + 1 - (intOf vb).toNat)
  case atStart => exact ⟨B, Nat.le_refl _, hB2, by rw [colN_self]; rfl, rfl, HB1.out, Below.refl _ w1⟩
  case round =>
    obtain ⟨i, i1, i2, rfl, rfl, hbw, hb1⟩ := hrel
    have HBW := Lib.hid hbw
    have HB2 := Lib.hid hb1
    have HVr := Lib.hid (HV.out.up hb1)
    clear hbw hb1
    by_cases hlt : i < k
    · have d1 : decide ((i : Int) < k) = true := decide_eq_true (by omega)
      have HC := Lib.hid (bchar (HH.out.up HBW.out) i (by omega) (by omega))
      have HN := Lib.hid (chr_isN HH.out i (by omega) (by omega))
      have v0 := HVr.out.c0
      have v3 := fun w' (hb : Below wr.heap.size wr w') => (HVr.out.up hb).c3
      have HV3 := Lib.hid v3
      clear v3
      have hsm := colN_small (cs := cs) ht2 B i i1 (by omega)
      have hsu : colN widN cs tab B (i + 1) = _ := colN_succ B i i1
      have HSU := Lib.hid hsu
      clear hsu
      generalize colN widN cs tab B i = C at *
      generalize chr cs i = c at *
      have s1 : IntKind.i64.wrap ((i : Int) + 1) = ((i + 1 : Nat) : Int) := by rw [IntWalk.i64_in _ (by omega)]; omega
      go_wp2_with fail
      refine HC.out.mono ?_
      rintro e w2 ⟨rfl, hb2⟩
      have v3 := HV3.out w2 hb2
      have HB3 := Lib.hid hb2
      clear hb2
      go_wp2_with fail
      refine (after_ok C c tab HN.out ht1 ht2 hsm w2).mono ?_
      rintro e w3 ⟨rfl, hb3⟩
      have HB4 := Lib.hid hb3
      clear hb3 v3
      go_wp2_with fail
      go_roundw
      case rel => exact ⟨i + 1, by omega, by omega, by rw [HSU.out], by first | rfl | go_num, up2 HBW.out (up2 HB3.out HB4.out), up2 HB2.out (up2 HB3.out HB4.out)⟩
      case measure => simp [intOf]; omega
    · have d1 : decide ((i : Int) < k) = false := decide_eq_false (by omega)
      have hik : i = k := by omega
      go_wp2_with fail
      go_ret
      exact ⟨by rw [HR.out, hik]; rfl, HBW.out⟩
set_option maxHeartbeats 2000000 in
theorem vseek (h : BufR w b cs pt lo hi) (tab k col : Nat) (ht1 : 1 ≤ tab) (ht2 : tab ≤ 64) (h2 : lo ≤ k) (h3 : k ≤ hi) :
    Calls Tryz.prog 126 #[vwV b lo hi tab, .int .i64 k, .int .i64 col] w fun e w' => e = .returned (.tuple #[.int .i64 (seekN widN cs tab (lineB cs lo k) (lineE cs hi k) col : Nat), .int .i64 (colN widN cs tab (lineB cs lo k) (seekN widN cs tab (lineB cs lo k) (lineE cs hi k) col) : Nat)]) ∧ Below w.heap.size w w' := by
  have hl := h.len
  have HH := Lib.hid h
  have hB1 : lo ≤ lineB cs lo k := lineB_ge k
  have hB2 : lineB cs lo k ≤ k := lineB_le k h2
  have hE1 : k ≤ lineE cs hi k := lineE_ge k
  have hE2 : lineE cs hi k ≤ hi := lineE_le k h3
  obtain ⟨R, hR⟩ : ∃ R, R = seekN widN cs tab (lineB cs lo k) (lineE cs hi k) col := ⟨_, rfl⟩
  rw [← hR]
  have HR := Lib.hid hR
  obtain ⟨D, hD⟩ : ∃ D, D = colN widN cs tab (lineB cs lo k) R := ⟨_, rfl⟩
  rw [← hD]
  have HD := Lib.hid hD
  clear hR hD h
  go_enter Tryz.func126, Tryz.ntmps126
  go_wp2_with fail
  have HB0 := below1 w (.cells #[.pointer (some ⟨b, 0, none⟩), .int .i64 lo, .int .i64 hi, .int .i64 tab] 109)
  have hv := VwI.made w b lo hi tab (T := 109)
  generalize w.alloc (.cells #[.pointer (some ⟨b, 0, none⟩), .int .i64 lo, .int .i64 hi, .int .i64 tab] 109) = W at *
  have v0 := fun (x : UpW W.heap.size W) => (hv.up x.up).c0
  have v1 := fun (x : UpW W.heap.size W) => (hv.up x.up).c1
  have v2 := fun (x : UpW W.heap.size W) => (hv.up x.up).c2
  have v3 := fun (x : UpW W.heap.size W) => (hv.up x.up).c3
  refine wp_region_up W.heap.size (by kernel_rfl) (by kernel_rfl) ?_
  repeat (go_big_quiet_step (first | exact Calls.up ‹_› (Nat.le_refl _) (vbegin ((HH.out.up HB0).up (UpW.up ‹_›)) tab k hl.2.1 h2 h3) | exact Calls.up ‹_› (Nat.le_refl _) (vend ((HH.out.up HB0).up (UpW.up ‹_›)) tab k (by omega) h3)))
  refine wpQuiet_nil ?_
  rintro ⟨w1, hb1⟩
  dsimp only
  have HV := Lib.hid (hv.up hb1)
  have HB1 := Lib.hid (up2 HB0 hb1)
  clear hv v0 v1 v2 v3 HB0 hb1
  generalize lineB cs lo k = B at *
  generalize lineE cs hi k = E at *
  go_wp2_with fail
  go_loopw [8, 10, 11, 12] (fun va vb vc vd wr => ∃ i : Nat, B ≤ i ∧ i ≤ E ∧ (∀ j, B ≤ j → j < i → colN widN cs tab B j < col) ∧ va = .int .i64 i ∧ vb = .int .i64 (colN widN cs tab B i) ∧ Below w.heap.size w wr ∧ Below w1.heap.size w1 wr) (fun va _ _ _ _ => E + 1 - (intOf va).toNat)
  case atStart => exact ⟨B, Nat.le_refl _, by omega, fun j h h2 => by omega, rfl, by rw [colN_self]; rfl, HB1.out, Below.refl _ w1⟩
  case round =>
    obtain ⟨i, i1, i2, i3, rfl, rfl, hbw, hb1⟩ := hrel
    have HBW := Lib.hid hbw
    have HI3 := Lib.hid i3
    have HB2 := Lib.hid hb1
    have HVr := Lib.hid (HV.out.up hb1)
    have hsm := colN_small (cs := cs) ht2 B i i1 (by omega)
    have hsu : colN widN cs tab B (i + 1) = _ := colN_succ B i i1
    have HSU := Lib.hid hsu
    clear hbw hb1 i3 hsu
    obtain ⟨C, hC⟩ : ∃ C, C = colN widN cs tab B i := ⟨_, rfl⟩
    rw [← hC] at hsm HSU
    rw [← hC]
    have HCC := Lib.hid hC
    clear hC
    by_cases hcol : C < col
    · have d0 : decide ((C : Int) < col) = true := decide_eq_true (by omega)
      by_cases hlt : i < E
      · have d1 : decide ((i : Int) < E) = true := decide_eq_true (by omega)
        have HC := Lib.hid (bchar (HH.out.up HBW.out) i (by omega) (by omega))
        have HN := Lib.hid (chr_isN HH.out i (by omega) (by omega))
        have v0 := HVr.out.c0
        have v3 := fun w' (hb : Below wr.heap.size wr w') => (HVr.out.up hb).c3
        have HV3 := Lib.hid v3
        clear v3
        generalize chr cs i = c at *
        have s1 : IntKind.i64.wrap ((i : Int) + 1) = ((i + 1 : Nat) : Int) := by rw [IntWalk.i64_in _ (by omega)]; omega
        go_wp2_with fail
        refine HC.out.mono ?_
        rintro e w2 ⟨rfl, hb2⟩
        have v3 := HV3.out w2 hb2
        have HB3 := Lib.hid hb2
        clear hb2
        go_wp2_with fail
        refine (after_ok C c tab HN.out ht1 ht2 hsm w2).mono ?_
        rintro e w3 ⟨rfl, hb3⟩
        have HB4 := Lib.hid hb3
        clear hb3 v3
        go_wp2_with fail
        go_roundw
        case rel =>
          refine ⟨i + 1, by omega, by omega, fun j hj hj2 => ?_, by first | rfl | go_num, by rw [HSU.out], up2 HBW.out (up2 HB3.out HB4.out), up2 HB2.out (up2 HB3.out HB4.out)⟩
          by_cases e : j = i
          · rw [e, ← HCC.out]; exact hcol
          · exact HI3.out j hj (by omega)
        case measure => simp [intOf]; omega
      · have d1 : decide ((i : Int) < E) = false := decide_eq_false (by omega)
        obtain rfl : i = R := (HR.out.trans (seekN_eq B E col i (by omega) i1 i2 HI3.out (.inl (by omega)))).symm
        go_wp2_with fail
        go_ret2
        exact ⟨by rw [HD.out, HCC.out]; rfl, HBW.out⟩
    · have d0 : decide ((C : Int) < col) = false := decide_eq_false (by omega)
      obtain rfl : i = R := (HR.out.trans (seekN_eq B E col i (by omega) i1 i2 HI3.out (.inr (by rw [← HCC.out]; omega)))).symm
      go_wp2_with fail
      go_ret2
      exact ⟨by rw [HD.out, HCC.out]; rfl, HBW.out⟩
end
end Go.Proofs.YtnbccoelbfgmgaaGreatDoor
