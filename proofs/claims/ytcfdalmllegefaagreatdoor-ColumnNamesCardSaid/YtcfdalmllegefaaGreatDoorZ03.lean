import Derived.Test.YtcfdalmllegefaaGreatDoorZ02
import Derived.Laws.Cover4
import Derived.Lib.MapLaws
import Derived.Lib.TrimUEq
import Derived.Test.YtcfdalmllegefaaGreatDoorZ00
import Derived.Test.YtcfdalmllegefaaGreatDoorZ01
import Derived.IntWalk
import Derived.Lib.SliceRun
import Derived.BigRegion
import Derived.RegionTactic
import Derived.ChangeAlike
import Derived.Laws.Concat
/- Characters and their bytes: plain laws. -/
namespace Go.Proofs.YtcfdalmllegefaaGreatDoor
set_option linter.unusedVariables false
set_option linter.unusedSimpArgs false
/-- The bytes of characters, one behind the other. -/
def encL (cs : List Nat) : List UInt8 := cs.flatMap fun c : Nat => (Utf8.encode (c : Int)).data.toList
def encS (cs : List Nat) : ByteArray := runesBytes (cs.map fun c : Nat => (c : Int))
theorem encL_nil : encL [] = [] := rfl
theorem encL_cons (c : Nat) (cs : List Nat) : encL (c :: cs) = (Utf8.encode (c : Int)).data.toList ++ encL cs := rfl
theorem encL_append (a b : List Nat) : encL (a ++ b) = encL a ++ encL b := by unfold encL; rw [List.flatMap_append]
theorem runes_fold : ∀ (cs : List Nat) (s : ByteArray), ((cs.map fun c : Nat => (c : Int)).foldl (fun r n => r ++ Utf8.encode n) s).data.toList = s.data.toList ++ encL cs
  | [], s => by simp [encL]
  | c :: cs, s => by
    rw [List.map_cons, List.foldl_cons, runes_fold cs, encL_cons, ← List.append_assoc]
    simp
theorem encS_list (cs : List Nat) : (encS cs).data.toList = encL cs := by
  unfold encS runesBytes
  rw [runes_fold]; rfl
theorem bytes_ext {s t : ByteArray} (h : s.data.toList = t.data.toList) : s = t := by
  obtain ⟨a⟩ := s
  obtain ⟨b⟩ := t
  simp only [Array.toList_inj] at h
  rw [h]
theorem encS_append (a b : List Nat) : encS a ++ encS b = encS (a ++ b) := bytes_ext (by
  rw [encS_list, encL_append, ← encS_list, ← encS_list]; simp)
theorem encS_nil : encS [] = ByteArray.empty := rfl
theorem valid_isN {c : Nat} (h : isN c) : Utf8.valid (c : Int) = true := by
  unfold isN at h
  simp [Utf8.valid]; omega
theorem enc1 {c : Nat} (h : isN c) (h1 : c < 128) : (Utf8.encode (c : Int)).data.toList = [UInt8.ofNat c] := by
  simp [Utf8.encode, valid_isN h, h1]
theorem enc2 {c : Nat} (h : isN c) (h1 : ¬ c < 128) (h2 : c < 2048) : (Utf8.encode (c : Int)).data.toList = [UInt8.ofNat (192 + c / 64), UInt8.ofNat (128 + c % 64)] := by
  simp [Utf8.encode, valid_isN h, h1, h2]
theorem enc3 {c : Nat} (h : isN c) (h1 : ¬ c < 128) (h2 : ¬ c < 2048) (h3 : c < 65536) : (Utf8.encode (c : Int)).data.toList = [UInt8.ofNat (224 + c / 4096), UInt8.ofNat (128 + c / 64 % 64), UInt8.ofNat (128 + c % 64)] := by
  simp [Utf8.encode, valid_isN h, h1, h2, h3]
theorem enc4 {c : Nat} (h : isN c) (h1 : ¬ c < 128) (h2 : ¬ c < 2048) (h3 : ¬ c < 65536) : (Utf8.encode (c : Int)).data.toList = [UInt8.ofNat (240 + c / 262144), UInt8.ofNat (128 + c / 4096 % 64), UInt8.ofNat (128 + c / 64 % 64), UInt8.ofNat (128 + c % 64)] := by
  simp [Utf8.encode, valid_isN h, h1, h2, h3]
theorem un8 (n : Nat) (h : n < 256) : (UInt8.ofNat n).toNat = n := by rw [UInt8.toNat_ofNat']; omega
/-- What an encoded character decodes to. -/
theorem dec_enc {c : Nat} (h : isN c) (rest : List UInt8) : Lib.decodeL ((Utf8.encode (c : Int)).data.toList ++ rest) = (c, (Utf8.encode (c : Int)).data.toList.length) ∧ 0 < (Utf8.encode (c : Int)).data.toList.length ∧ ¬ (c = 65533 ∧ (Utf8.encode (c : Int)).data.toList.length = 1) := by
  have hb := h
  unfold isN at hb
  rw [Lib.decodeL_N]
  by_cases h1 : c < 128
  · rw [enc1 h h1]
    refine ⟨?_, by simp, by simp; omega⟩
    simp only [List.cons_append, List.nil_append, List.getD_cons_zero, un8 c (by omega)]
    unfold Lib.decodeN
    rw [if_pos h1]; rfl
  · by_cases h2 : c < 2048
    · rw [enc2 h h1 h2]
      refine ⟨?_, by simp, by simp⟩
      simp only [List.cons_append, List.nil_append, List.getD_cons_zero, List.getD_cons_succ, un8 (192 + c / 64) (by omega), un8 (128 + c % 64) (by omega), List.length_cons]
      unfold Lib.decodeN
      rw [if_neg (by omega), if_pos (by omega), if_pos (by omega)]
      rw [Prod.mk.injEq]; exact ⟨by omega, rfl⟩
    · by_cases h3 : c < 65536
      · rw [enc3 h h1 h2 h3]
        refine ⟨?_, by simp, by simp⟩
        simp only [List.cons_append, List.nil_append, List.getD_cons_zero, List.getD_cons_succ, un8 (224 + c / 4096) (by omega), un8 (128 + c / 64 % 64) (by omega), un8 (128 + c % 64) (by omega), List.length_cons]
        unfold Lib.decodeN
        rw [if_neg (by omega), if_neg (by omega), if_pos (by omega), if_pos (by omega)]
        rw [Prod.mk.injEq]; exact ⟨by omega, rfl⟩
      · rw [enc4 h h1 h2 h3]
        refine ⟨?_, by simp, by simp⟩
        simp only [List.cons_append, List.nil_append, List.getD_cons_zero, List.getD_cons_succ, un8 (240 + c / 262144) (by omega), un8 (128 + c / 4096 % 64) (by omega), un8 (128 + c / 64 % 64) (by omega), un8 (128 + c % 64) (by omega), List.length_cons]
        unfold Lib.decodeN
        rw [if_neg (by omega), if_neg (by omega), if_neg (by omega), if_pos (by omega), if_pos (by omega)]
        rw [Prod.mk.injEq]; exact ⟨by omega, rfl⟩
theorem pt_enc {c : Nat} (h : isN c) (rest : List UInt8) : ptL ((Utf8.encode (c : Int)).data.toList ++ rest) = (c, (Utf8.encode (c : Int)).data.toList.length) := by
  obtain ⟨h1, h2, h3⟩ := dec_enc h rest
  rcases ptL_decode ((Utf8.encode (c : Int)).data.toList ++ rest) with ⟨_, g⟩ | ⟨_, g, _⟩
  · rw [h1, Prod.mk.injEq] at g; exact absurd g h3
  · rw [g, h1]
theorem enc_ne {c : Nat} (h : isN c) (rest : List UInt8) : (Utf8.encode (c : Int)).data.toList ++ rest ≠ [] := by
  have := (dec_enc h rest).2.1
  intro e
  rw [List.append_eq_nil_iff] at e
  rw [e.1] at this; simp at this
/-- Characters are what their bytes decode to. -/
theorem chars_enc : ∀ cs : List Nat, (∀ c ∈ cs, isN c) → charsD (encL cs) = some cs
  | [], _ => rfl
  | c :: cs, h => by
    have hc := h c (by simp)
    rw [encL_cons, charsD_step _ (enc_ne hc _), pt_enc hc, if_neg (by have := (dec_enc hc []).2.1; simp only; omega)]
    simp only [List.drop_left']
    rw [chars_enc cs fun d hd => h d (by simp [hd])]; rfl
set_option maxRecDepth 100000 in
theorem ptL_isN (l : List UInt8) (h : 0 < (ptL l).2) : isN (ptL l).1 := by
  unfold ptL ptN at h ⊢
  generalize bAt l 0 = b0 at *
  generalize bAt l 1 = b1 at *
  generalize bAt l 2 = b2 at *
  generalize bAt l 3 = b3 at *
  by_cases a1 : b0 < 128
  · rw [if_pos a1]; unfold isN; simp only; omega
  · rw [if_neg a1] at h ⊢
    by_cases a2 : (194 ≤ b0 ∧ b0 < 224) ∧ tlN l.length 1 b1
    · rw [if_pos a2]; unfold isN c2N; unfold tlN at a2; simp only; clear h; omega
    · rw [if_neg a2] at h ⊢
      by_cases a3 : (224 ≤ b0 ∧ b0 < 240) ∧ tlN l.length 1 b1 ∧ tlN l.length 2 b2
      · rw [if_pos a3] at h ⊢
        by_cases a4 : 2048 ≤ c3N b0 b1 b2 ∧ isN (c3N b0 b1 b2)
        · rw [if_pos a4]; exact a4.2
        · rw [if_neg a4] at h; simp at h
      · rw [if_neg a3] at h ⊢
        by_cases a4 : (240 ≤ b0 ∧ b0 < 245) ∧ tlN l.length 1 b1 ∧ tlN l.length 2 b2 ∧ tlN l.length 3 b3
        · rw [if_pos a4] at h ⊢
          by_cases a5 : 65536 ≤ c4N b0 b1 b2 b3 ∧ isN (c4N b0 b1 b2 b3)
          · rw [if_pos a5]; exact a5.2
          · rw [if_neg a5] at h; simp at h
        · rw [if_neg a4] at h; simp at h
theorem encR_eq {c : Nat} (h : isN c) : Lib.encodeRune (c : Int) = (Utf8.encode (c : Int)).data.toList := by
  have hb := h
  unfold isN at hb
  unfold Lib.encodeRune
  by_cases h1 : c < 128
  · rw [enc1 h h1, Lib.encodeRuneZ_one (by omega) (by omega)]; rfl
  · by_cases h2 : c < 2048
    · rw [enc2 h h1 h2, Lib.encodeRuneZ_two (by omega) (by omega)]
      simp only [List.map_cons, List.map_nil]
      rw [show (192 + (c : Int) / 64).toNat = 192 + c / 64 by omega, show (128 + (c : Int) % 64).toNat = 128 + c % 64 by omega]
    · by_cases h3 : c < 65536
      · rw [enc3 h h1 h2 h3, Lib.encodeRuneZ_three (by omega)]
        simp only [List.map_cons, List.map_nil]
        rw [show (224 + (c : Int) / 4096).toNat = 224 + c / 4096 by omega, show (128 + (c : Int) / 64 % 64).toNat = 128 + c / 64 % 64 by omega, show (128 + (c : Int) % 64).toNat = 128 + c % 64 by omega]
      · rw [enc4 h h1 h2 h3, Lib.encodeRuneZ_four (by omega) (by omega)]
        simp only [List.map_cons, List.map_nil]
        rw [show (240 + (c : Int) / 262144).toNat = 240 + c / 262144 by omega, show (128 + (c : Int) / 4096 % 64).toNat = 128 + c / 4096 % 64 by omega, show (128 + (c : Int) / 64 % 64).toNat = 128 + c / 64 % 64 by omega, show (128 + (c : Int) % 64).toNat = 128 + c % 64 by omega]
/-- Bytes are what their characters encode to. -/
theorem enc_chars : ∀ (n : Nat) (l : List UInt8) (cs : List Nat), l.length ≤ n → charsD l = some cs → encL cs = l ∧ ∀ c ∈ cs, isN c
  | 0, l, cs, hn, h => by
    have : l = [] := List.eq_nil_of_length_eq_zero (by omega)
    subst this
    rw [charsD_nil] at h; cases h
    exact ⟨rfl, by simp⟩
  | n + 1, l, cs, hn, h => by
    by_cases hne : l = []
    · subst hne
      rw [charsD_nil] at h; cases h
      exact ⟨rfl, by simp⟩
    · rw [charsD_step l hne] at h
      by_cases h0 : (ptL l).2 = 0
      · rw [if_pos h0] at h; cases h
      · rw [if_neg h0] at h
        cases hd : charsD (l.drop (ptL l).2) with
        | none => rw [hd] at h; cases h
        | some cs' =>
          rw [hd] at h
          simp only [Option.map_some, Option.some.injEq] at h
          subst h
          have hN := ptL_isN l (by omega)
          obtain ⟨h1, h2⟩ := enc_chars n (l.drop (ptL l).2) cs' (by rw [List.length_drop]; have := List.length_pos_iff.2 hne; omega) hd
          refine ⟨?_, fun c hc => ?_⟩
          · rw [encL_cons, h1, ← encR_eq hN]
            rcases ptL_decode l with ⟨g, _⟩ | ⟨_, g, g2⟩
            · rw [g] at h0; simp at h0
            · rw [g, Lib.encode_decode l hne g2, List.take_append_drop]
          · rcases List.mem_cons.1 hc with rfl | hc
            · exact hN
            · exact h2 c hc
/-- The characters of a string (none if it is not valid). -/
def chrs (s : ByteArray) : List Nat := (charsD s.data.toList).getD []
theorem chrs_isN (s : ByteArray) : ∀ c ∈ chrs s, isN c := by
  unfold chrs
  cases h : charsD s.data.toList with
  | none => simp
  | some cs => exact (enc_chars _ _ cs (Nat.le_refl _) h).2
theorem encS_chrs {s : ByteArray} (h : (charsD s.data.toList).isSome = true) : encS (chrs s) = s := by
  unfold chrs
  cases hc : charsD s.data.toList with
  | none => rw [hc] at h; cases h
  | some cs => exact bytes_ext (by rw [encS_list]; exact (enc_chars _ _ cs (Nat.le_refl _) hc).1)
theorem chrs_encS {cs : List Nat} (h : ∀ c ∈ cs, isN c) : chrs (encS cs) = cs ∧ (charsD (encS cs).data.toList).isSome = true := by
  unfold chrs
  rw [encS_list, chars_enc cs h]; exact ⟨rfl, rfl⟩
theorem chrs_len (s : ByteArray) : (chrs s).length ≤ s.size := by
  unfold chrs
  cases h : charsD s.data.toList with
  | none => simp
  | some cs =>
    have := chars_len _ _ cs (Nat.le_refl _) h
    simpa using this
/-- One step of a range over a valid string. -/
theorem decode_step {s : ByteArray} {pos : Nat} {cs : List Nat} (hp : pos < s.size) (h : charsD (s.data.toList.drop pos) = some cs) :
    ∃ c t, cs = c :: t ∧ (Utf8.decode s pos).1 = c ∧ 0 < (Utf8.decode s pos).2 ∧ pos + (Utf8.decode s pos).2 ≤ s.size ∧ charsD (s.data.toList.drop (pos + (Utf8.decode s pos).2)) = some t ∧ isN c := by
  have hne : s.data.toList.drop pos ≠ [] := fun e => by
    have := congrArg List.length e
    rw [List.length_drop] at this; simp at this; omega
  rw [charsD_step _ hne] at h
  by_cases h0 : (ptL (s.data.toList.drop pos)).2 = 0
  · rw [if_pos h0] at h; cases h
  · rw [if_neg h0] at h
    have hb := ptL_bound _ hne
    have hN := ptL_isN _ (Nat.pos_of_ne_zero h0)
    rcases ptL_decode (s.data.toList.drop pos) with ⟨g, _⟩ | ⟨_, g, _⟩
    · rw [g] at h0; simp at h0
    · rw [Lib.decodeL_drop] at g
      rw [g] at h h0 hb hN
      cases hd : charsD ((s.data.toList.drop pos).drop (Utf8.decode s pos).2) with
      | none => rw [hd] at h; cases h
      | some t =>
        rw [hd] at h
        simp only [Option.map_some, Option.some.injEq] at h
        rw [List.drop_drop] at hd
        rw [List.length_drop] at hb
        refine ⟨_, t, h.symm, rfl, by omega, ?_, hd, hN⟩
        have := hb.1
        simp at this
        omega
end Go.Proofs.YtcfdalmllegefaaGreatDoor
/- A text with a gap, in memory; none, Size, rune, Char, span, Find, FindBack. -/
namespace Go.Proofs.YtcfdalmllegefaaGreatDoor
open Go.RowKit
set_option linter.unusedVariables false
set_option linter.unusedSimpArgs false

/-- The text object at block t, with its characters in block g: cs. -/
structure GapI (w : World) (t g : Nat) (B : List Int) (cap st en : Nat) (cs : List Nat) : Prop where
  c0 : w.cell? ⟨t, 0, none⟩ = some (.slice (some ⟨g, 0, none⟩) B.length cap)
  c1 : w.cell? ⟨t, 1, none⟩ = some (.int .i64 st)
  c2 : w.cell? ⟨t, 2, none⟩ = some (.int .i64 en)
  hc : B.length ≤ cap
  hm : cap ≤ 1000000
  hg : g < w.heap.size
  hb : ∀ (i : Nat) (z : Int), B[i]? = some z → w.cell? ⟨g, i, none⟩ = some (.int .i32 z)
  h1 : st ≤ en
  h2 : en ≤ B.length
  hB : B.take st ++ B.drop en = cs.map Int.ofNat
  hn : ∀ c ∈ cs, isN c
def GapR (w : World) (t g : Nat) (cs : List Nat) : Prop := ∃ B cap st en, GapI w t g B cap st en cs
section
variable {w w' : World} {t g cap st en : Nat} {B : List Int} {cs : List Nat}
theorem GapI.lt (h : GapI w t g B cap st en cs) : t < w.heap.size := lt_of_cell h.c0
theorem GapI.kept (h : GapI w t g B cap st en cs) (ht : w'.heap[t]? = w.heap[t]?) (hg : w'.heap[g]? = w.heap[g]?) (hs : w.heap.size ≤ w'.heap.size) : GapI w' t g B cap st en cs :=
  ⟨(World.cell?_of_block (w := w) (a := ⟨t, 0, none⟩) ht).trans h.c0, (World.cell?_of_block (w := w) (a := ⟨t, 1, none⟩) ht).trans h.c1, (World.cell?_of_block (w := w) (a := ⟨t, 2, none⟩) ht).trans h.c2, h.hc, h.hm, Nat.lt_of_lt_of_le h.hg hs,
    fun i z hz => (World.cell?_of_block (w := w) (a := ⟨g, i, none⟩) hg).trans (h.hb i z hz), h.h1, h.h2, h.hB, h.hn⟩
theorem GapI.up (h : GapI w t g B cap st en cs) (hb : Below w.heap.size w w') : GapI w' t g B cap st en cs := h.kept (hb.block t h.lt) (hb.block g h.hg) hb.size
theorem GapR.up (h : GapR w t g cs) (hb : Below w.heap.size w w') : GapR w' t g cs := by obtain ⟨B, cap, st, en, h⟩ := h; exact ⟨B, cap, st, en, h.up hb⟩
theorem GapR.kept (h : GapR w t g cs) (ht : w'.heap[t]? = w.heap[t]?) (hg : w'.heap[g]? = w.heap[g]?) (hs : w.heap.size ≤ w'.heap.size) : GapR w' t g cs := by obtain ⟨B, cap, st, en, h⟩ := h; exact ⟨B, cap, st, en, h.kept ht hg hs⟩
theorem GapI.len (h : GapI w t g B cap st en cs) : cs.length + (en - st) = B.length := by
  have e := congrArg List.length h.hB
  rw [List.length_append, List.length_take, List.length_drop, List.length_map] at e
  have := h.h1; have := h.h2; omega
theorem GapR.len (h : GapR w t g cs) : cs.length ≤ 1000000 := by
  obtain ⟨B, cap, st, en, h⟩ := h
  have := h.len; have := h.hc; have := h.hm; omega
theorem GapI.at_ (h : GapI w t g B cap st en cs) {i : Nat} (hi : i < cs.length) : w.cell? ⟨g, (if i < st then i else i + (en - st)), none⟩ = some (.int .i32 (cs.getD i 0 : Nat)) := by
  have hl := h.len
  have h1 := h.h1; have h2 := h.h2
  have e : (B.take st ++ B.drop en)[i]? = some ((cs.getD i 0 : Nat) : Int) := by
    rw [h.hB, List.getElem?_map, List.getD_eq_getElem?_getD, List.getElem?_eq_getElem hi]; rfl
  by_cases hs : i < st
  · rw [if_pos hs]
    rw [List.getElem?_append_left (by rw [List.length_take]; omega), List.getElem?_take_of_lt hs] at e
    exact h.hb i _ e
  · rw [if_neg hs]
    rw [List.getElem?_append_right (by rw [List.length_take]; omega), List.length_take, List.getElem?_drop, show en + (i - min st B.length) = i + (en - st) by omega] at e
    exact h.hb _ _ e
theorem GapI.chr_bound (h : GapI w t g B cap st en cs) (i : Nat) : cs.getD i 0 ≤ 1114111 := by
  rw [List.getD_eq_getElem?_getD]
  cases e : cs[i]? with
  | none => simp
  | some c => exact (h.hn c (List.mem_of_getElem? e)).1

set_option maxRecDepth 100000 in
set_option maxHeartbeats 1000000 in
theorem gnone (h : GapI w t g B cap st en cs) : Calls Tryz.prog 193 #[.pointer (some ⟨t, 0, none⟩)] w fun e w' => e = .returned (.bool false) ∧ w = w' := by
  have c0 := h.c0
  have hn := Lib.run_eql_slice_nil (P := Tryz.prog) w 190 21 (some ⟨g, 0, none⟩) B.length cap 0 0 Tryz.underlying190
  clear h
  go_enter Tryz.func193, Tryz.ntmps193
  go_wp2_with fail
  go_ret
  exact ⟨rfl, rfl⟩
set_option maxHeartbeats 1000000 in
theorem gsize (h : GapR w t g cs) : Calls Tryz.prog 154 #[.pointer (some ⟨t, 0, none⟩)] w fun e w' => e = .returned (.int .i64 cs.length) ∧ Below w.heap.size w w' := by
  obtain ⟨B, cap, st, en, h⟩ := h
  have c0 := h.c0
  have c1 := h.c1
  have c2 := h.c2
  have hl := h.len
  have h1 := h.h1
  have h2 := h.h2
  have h3 := h.hc
  have h4 := h.hm
  have s1 : IntKind.i64.wrap ((en : Int) - (st : Int)) = (en : Int) - (st : Int) := IntWalk.i64_in _ (by omega)
  have s2 : IntKind.i64.wrap ((B.length : Int) - ((en : Int) - (st : Int))) = (cs.length : Int) := by rw [IntWalk.i64_in _ (by omega)]; omega
  have HN := Lib.hid (gnone h)
  clear h hl h1 h2 h3 h4
  go_enter Tryz.func154, Tryz.ntmps154
  go_wp2_with fail
  refine HN.out.mono ?_
  rintro e w' ⟨rfl, rfl⟩
  go_wp2_with fail
  go_region
  go_wp2_with fail
  go_ret
  exact ⟨rfl, (Below.refl _ w).drew⟩
set_option maxHeartbeats 1000000 in
theorem grune (h : GapR w t g cs) (i : Nat) (hi : i < cs.length) : Calls Tryz.prog 223 #[.pointer (some ⟨t, 0, none⟩), .int .i64 i] w fun e w' => e = .returned (.int .i32 (cs.getD i 0 : Nat)) ∧ Below w.heap.size w w' := by
  obtain ⟨B, cap, st, en, h⟩ := h
  have c0 := h.c0
  have c1 := h.c1
  have c2 := h.c2
  have hl := h.len
  have h1 := h.h1
  have h2 := h.h2
  have h3 := h.hc
  have h4 := h.hm
  have ha := h.at_ hi
  have hcb := h.chr_bound i
  by_cases hs : i < st
  · rw [if_pos hs] at ha
    have d1 : decide ((st : Int) ≤ i) = false := decide_eq_false (by omega)
    have hi' : (i : Int) < B.length := by omega
    clear h hl hi
    go_enter Tryz.func223, Tryz.ntmps223
    go_wp2_with fail
    go_ret
    exact ⟨rfl, Below.refl _ w⟩
  · rw [if_neg hs] at ha
    have d1 : decide ((st : Int) ≤ i) = true := decide_eq_true (by omega)
    have s1 : IntKind.i64.wrap ((en : Int) - (st : Int)) = ((en - st : Nat) : Int) := by rw [IntWalk.i64_in _ (by omega)]; omega
    have s2 : IntKind.i64.wrap ((i : Int) + ((en - st : Nat) : Int)) = ((i + (en - st) : Nat) : Int) := by rw [IntWalk.i64_in _ (by omega)]; omega
    have hi' : ((i + (en - st) : Nat) : Int) < B.length := by omega
    have hi'' : i + (en - st) < B.length := by omega
    generalize i + (en - st) = k at *
    generalize en - st = gp at *
    clear h hl hi
    go_enter Tryz.func223, Tryz.ntmps223
    go_wp2_with fail
    go_region
    go_wp2_with fail
    go_ret
    exact ⟨rfl, (Below.refl _ w).drew⟩
theorem chr_get (cs : List Nat) (k : Nat) : cs.getD k 0 = chr cs (k + 1) := by unfold chr; rw [Nat.add_sub_cancel]
/-- Handed back by Char. -/
def charV (cs : List Nat) (at_ : Nat) : Value := if 1 ≤ at_ ∧ at_ ≤ cs.length then .tuple #[.int .i64 (chr cs at_ : Nat), .bool true] else .tuple #[.int .i64 0, .bool false]
theorem chr_cap (h : GapR w t g cs) (i : Nat) : chr cs i ≤ 1114111 := by obtain ⟨B, cap, st, en, h⟩ := h; exact h.chr_bound _
set_option maxHeartbeats 1000000 in
theorem gchar (h : GapR w t g cs) (k : Nat) (hk : k < cs.length) : Calls Tryz.prog 150 #[.pointer (some ⟨t, 0, none⟩), .int .i64 (k + 1 : Nat)] w fun e w' => e = .returned (.tuple #[.int .i64 (chr cs (k + 1) : Nat), .bool true]) ∧ Below w.heap.size w w' := by
  have hl := h.len
  have hcb := chr_cap h (k + 1)
  have HS := Lib.hid (gsize h)
  have HR : Hid (∀ w1, Below w.heap.size w w1 → _) := Lib.hid (fun w1 (hb : Below w.heap.size w w1) => grune (h.up hb) k hk)
  rw [chr_get] at HR
  have d1 : decide (((k + 1 : Nat) : Int) < 1) = false := decide_eq_false (by omega)
  have d2 : decide ((cs.length : Int) < ((k + 1 : Nat) : Int)) = false := decide_eq_false (by omega)
  have s1 : IntKind.i64.wrap (((k + 1 : Nat) : Int) - 1) = (k : Int) := by rw [IntWalk.i64_in _ (by omega)]; omega
  generalize chr cs (k + 1) = c at *
  generalize ((k + 1 : Nat) : Int) = q at *
  clear h hk
  go_enter Tryz.func150, Tryz.ntmps150
  go_wp2_with fail
  refine HS.out.mono ?_
  rintro e w1 ⟨rfl, hb1⟩
  go_wp2_with fail
  refine (HR.out w1 hb1).mono ?_
  rintro e w2 ⟨rfl, hb2⟩
  go_wp2_with fail
  go_ret2
  exact ⟨rfl, up2 hb1 hb2⟩
theorem gchar_no (h : GapR w t g cs) (q : Int) (hk : q < 1 ∨ (cs.length : Int) < q) : Calls Tryz.prog 150 #[.pointer (some ⟨t, 0, none⟩), .int .i64 q] w fun e w' => e = .returned (.tuple #[.int .i64 0, .bool false]) ∧ Below w.heap.size w w' := by
  have hl := h.len
  have HS := Lib.hid (gsize h)
  clear h
  by_cases h1 : q < 1
  · have d1 : decide (q < 1) = true := decide_eq_true h1
    clear hk
    go_enter Tryz.func150, Tryz.ntmps150
    go_wp2_with fail
    go_ret2
    exact ⟨rfl, Below.refl _ w⟩
  · have d1 : decide (q < 1) = false := decide_eq_false h1
    have d2 : decide ((cs.length : Int) < q) = true := decide_eq_true (by omega)
    clear hk
    go_enter Tryz.func150, Tryz.ntmps150
    go_wp2_with fail
    refine HS.out.mono ?_
    rintro e w1 ⟨rfl, hb1⟩
    go_wp2_with fail
    go_ret2
    exact ⟨rfl, hb1⟩
/-- The first line feed (or whatever character) from a position on. -/
def FindP (w : World) (cs : List Nat) (c lo hi : Nat) (e : Ending) (w' : World) : Prop := Below w.heap.size w w' ∧
  ((∃ i, lo ≤ i ∧ i < hi ∧ chr cs i = c ∧ (∀ j, lo ≤ j → j < i → chr cs j ≠ c) ∧ e = .returned (.tuple #[.int .i64 i, .bool true])) ∨ ((∀ j, lo ≤ j → j < hi → chr cs j ≠ c) ∧ e = .returned (.tuple #[.int .i64 0, .bool false])))
def FindBackP (w : World) (cs : List Nat) (c lo hi : Nat) (e : Ending) (w' : World) : Prop := Below w.heap.size w w' ∧
  ((∃ i, lo ≤ i ∧ i < hi ∧ chr cs i = c ∧ (∀ j, i < j → j < hi → chr cs j ≠ c) ∧ e = .returned (.tuple #[.int .i64 i, .bool true])) ∨ ((∀ j, lo ≤ j → j < hi → chr cs j ≠ c) ∧ e = .returned (.tuple #[.int .i64 0, .bool false])))
def intOf : Value → Int
  | .int _ n => n
  | _ => 0
set_option maxRecDepth 100000 in
set_option maxHeartbeats 2000000 in
theorem gfind (h : GapR w t g cs) (c lo hi : Nat) (h1 : 1 ≤ lo) (h2 : hi ≤ cs.length + 1) (h3 : lo ≤ cs.length + 1) : Calls Tryz.prog 222 #[.pointer (some ⟨t, 0, none⟩), .int .i64 c, .int .i64 lo, .int .i64 hi] w (FindP w cs c lo hi) := by
  have hl := h.len
  have HG := Lib.hid h
  have m1 : max (lo : Int) 1 = lo := by omega
  have m2 : min (hi : Int) ((cs.length : Int) + 1) = hi := by omega
  have s1 : IntKind.i64.wrap ((cs.length : Int) + 1) = (cs.length : Int) + 1 := IntWalk.i64_in _ (by omega)
  clear h
  go_enter Tryz.func222, Tryz.ntmps222
  go_wp2_with fail
  go_loopw [10] (fun va wr => ∃ k : Nat, lo ≤ k ∧ k ≤ cs.length + 1 ∧ va = .int .i64 k ∧ (∀ j, lo ≤ j → j < k → chr cs j ≠ c) ∧ Below w.heap.size w wr) (fun va _ => cs.length + 2 - (intOf va).toNat)
  case atStart => exact ⟨lo, Nat.le_refl _, h3, rfl, fun j h h2 => by omega, Below.refl _ w⟩
  case round =>
    obtain ⟨k, hk1, hk2, rfl, hno, hbel⟩ := hrel
    have HNO := Lib.hid hno
    have HB := Lib.hid hbel
    have HS := Lib.hid (gsize (HG.out.up hbel))
    clear hno hbel
    by_cases hlt : k < hi
    · have d1 : decide ((k : Int) < hi) = true := decide_eq_true (by omega)
      obtain ⟨q, rfl⟩ : ∃ q, k = q + 1 := ⟨k - 1, by omega⟩
      have s2 : IntKind.i64.wrap (((q + 1 : Nat) : Int) - 1) = (q : Int) := by rw [IntWalk.i64_in _ (by omega)]; omega
      have HR : Hid (∀ w1, Below wr.heap.size wr w1 → _) := Lib.hid (fun w1 (hb : Below wr.heap.size wr w1) => grune ((HG.out.up HB.out).up hb) q (by omega))
      rw [chr_get] at HR
      have hcb := chr_cap HG.out (q + 1)
      have HQ : Hid (chr cs (q + 1) = chr cs (q + 1)) := Lib.hid rfl
      generalize hc : chr cs (q + 1) = x at HR hcb HQ
      have HC := Lib.hid hc
      have s3 : IntKind.i64.wrap (((q + 1 : Nat) : Int) + 1) = ((q + 1 + 1 : Nat) : Int) := by rw [IntWalk.i64_in _ (by omega)]; omega
      have hk3 : q + 1 + 1 ≤ cs.length + 1 := by omega
      clear hc HQ h2 h3 hk2
      by_cases hxc : x = c
      · have d2 : ((x : Int) == (c : Int)) = true := by simp [hxc]
        go_wp2_with fail
        refine HS.out.mono ?_
        rintro e w1 ⟨rfl, hb1⟩
        go_wp2_with fail
        refine (HR.out w1 hb1).mono ?_
        rintro e w2 ⟨rfl, hb2⟩
        go_wp2_with fail
        go_ret2
        exact ⟨up2 HB.out (up2 hb1 hb2), .inl ⟨q + 1, hk1, hlt, HC.out.trans hxc, HNO.out, rfl⟩⟩
      · have d2 : ((x : Int) == (c : Int)) = false := by simp; omega
        go_wp2_with fail
        refine HS.out.mono ?_
        rintro e w1 ⟨rfl, hb1⟩
        go_wp2_with fail
        refine (HR.out w1 hb1).mono ?_
        rintro e w2 ⟨rfl, hb2⟩
        go_wp2_with fail
        go_roundw
        case rel =>
          refine ⟨q + 1 + 1, by omega, hk3, by go_num, fun j hj hj2 => ?_, up2 HB.out (up2 hb1 hb2)⟩
          by_cases e : j = q + 1
          · rw [e, HC.out]; exact hxc
          · exact HNO.out j hj (by omega)
        case measure => simp [intOf]; omega
    · have d1 : decide ((k : Int) < hi) = false := decide_eq_false (by omega)
      go_wp2_with fail
      refine HS.out.mono ?_
      rintro e w1 ⟨rfl, hb1⟩
      go_wp2_with fail
      go_ret2
      exact ⟨up2 HB.out hb1, .inr ⟨fun j hj hj2 => HNO.out j hj (by omega), rfl⟩⟩
set_option maxRecDepth 100000 in
set_option maxHeartbeats 2000000 in
theorem gfindback (h : GapR w t g cs) (c lo hi : Nat) (h1 : 1 ≤ lo) (h2 : hi ≤ cs.length + 1) (h3 : 1 ≤ hi) : Calls Tryz.prog 215 #[.pointer (some ⟨t, 0, none⟩), .int .i64 c, .int .i64 lo, .int .i64 hi] w (FindBackP w cs c lo hi) := by
  have hl := h.len
  have HG := Lib.hid h
  have m1 : max (lo : Int) 1 = lo := by omega
  have m3 : max (hi : Int) 1 = hi := by omega
  have m2 : min (hi : Int) ((cs.length : Int) + 1) = hi := by omega
  have s1 : IntKind.i64.wrap ((cs.length : Int) + 1) = (cs.length : Int) + 1 := IntWalk.i64_in _ (by omega)
  have s0 : IntKind.i64.wrap ((hi : Int) - 1) = ((hi - 1 : Nat) : Int) := by rw [IntWalk.i64_in _ (by omega)]; omega
  have HS0 := Lib.hid (gsize h)
  clear h
  go_enter Tryz.func215, Tryz.ntmps215
  go_wp2_with fail
  refine HS0.out.mono ?_
  rintro e w0 ⟨rfl, hb0⟩
  have HB0 := Lib.hid hb0
  clear hb0
  go_wp2_with fail
  go_loopw [10] (fun va wr => ∃ k : Nat, k < hi ∧ va = .int .i64 k ∧ (∀ j, k < j → j < hi → chr cs j ≠ c) ∧ Below w.heap.size w wr) (fun va _ => (intOf va).toNat)
  case atStart => exact ⟨hi - 1, by omega, rfl, fun j h h2 => by omega, HB0.out⟩
  case round =>
    obtain ⟨k, hk1, rfl, hno, hbel⟩ := hrel
    have HNO := Lib.hid hno
    have HB := Lib.hid hbel
    clear hno hbel
    by_cases hlt : lo ≤ k
    · have d1 : decide ((lo : Int) ≤ k) = true := decide_eq_true (by omega)
      obtain ⟨q, rfl⟩ : ∃ q, k = q + 1 := ⟨k - 1, by omega⟩
      have s2 : IntKind.i64.wrap (((q + 1 : Nat) : Int) - 1) = (q : Int) := by rw [IntWalk.i64_in _ (by omega)]; omega
      have HR := Lib.hid (grune (HG.out.up HB.out) q (by omega))
      rw [chr_get] at HR
      have hcb := chr_cap HG.out (q + 1)
      have HQ : Hid (chr cs (q + 1) = chr cs (q + 1)) := Lib.hid rfl
      generalize hc : chr cs (q + 1) = x at HR hcb HQ
      have HC := Lib.hid hc
      clear hc HQ h2 h3
      by_cases hxc : x = c
      · have d2 : ((x : Int) == (c : Int)) = true := by simp [hxc]
        go_wp2_with fail
        refine HR.out.mono ?_
        rintro e w2 ⟨rfl, hb2⟩
        go_wp2_with fail
        go_ret2
        exact ⟨up2 HB.out hb2, .inl ⟨q + 1, hlt, hk1, HC.out.trans hxc, HNO.out, rfl⟩⟩
      · have d2 : ((x : Int) == (c : Int)) = false := by simp; omega
        go_wp2_with fail
        refine HR.out.mono ?_
        rintro e w2 ⟨rfl, hb2⟩
        go_wp2_with fail
        go_roundw
        case rel =>
          refine ⟨q, by omega, by first | rfl | go_num, fun j hj hj2 => ?_, up2 HB.out hb2⟩
          by_cases e : j = q + 1
          · rw [e, HC.out]; exact hxc
          · exact HNO.out j (by omega) hj2
        case measure => simp [intOf]
    · have d1 : decide ((lo : Int) ≤ k) = false := decide_eq_false (by omega)
      go_wp2_with fail
      go_ret2
      exact ⟨HB.out, .inr ⟨fun j hj hj2 => HNO.out j (by omega) hj2, rfl⟩⟩
end
end Go.Proofs.YtcfdalmllegefaaGreatDoor
/- package gap: span, Slice. -/
namespace Go.Proofs.YtcfdalmllegefaaGreatDoor
open Go.RowKit
set_option linter.unusedVariables false
set_option linter.unusedSimpArgs false
def subL (cs : List Nat) (x y : Nat) : List Nat := (cs.drop (x - 1)).take (y - x)
section
variable {w w' : World} {t g : Nat} {cs : List Nat}
set_option maxHeartbeats 1000000 in
theorem gspan_ok (h : GapR w t g cs) (x y : Nat) (h1 : 1 ≤ x) (h2 : x ≤ y) (h3 : y ≤ cs.length + 1) : Calls Tryz.prog 194 #[.pointer (some ⟨t, 0, none⟩), .int .i64 x, .int .i64 y] w fun e w' => e = .returned (.bool true) ∧ Below w.heap.size w w' := by
  have hl := h.len
  have HS := Lib.hid (gsize h)
  have d1 : decide ((1 : Int) ≤ (x : Int)) = true := decide_eq_true (by omega)
  have d2 : (x ≤ y) = True := by simp; omega
  obtain ⟨n, hn⟩ : ∃ n, cs.length + 1 = n := ⟨_, rfl⟩
  have s1 : IntKind.i64.wrap ((cs.length : Int) + 1) = (n : Int) := by rw [IntWalk.i64_in _ (by omega)]; omega
  rw [hn] at h3
  have d3 : (y ≤ n) = True := by simp; omega
  clear h h1 h2 h3 hn
  go_enter Tryz.func194, Tryz.ntmps194
  go_wp2_with fail
  refine HS.out.mono ?_
  rintro e w1 ⟨rfl, hb1⟩
  go_wp2_with fail
  go_ret
  exact ⟨rfl, hb1⟩
/-- A part of the gap buffer's block, as a string. -/
theorem GapI.conv {B : List Int} {cap st en : Nat} (h : GapI w t g B cap st en cs) (a b c : Nat) (hab : a ≤ b) (hb : b ≤ B.length) :
    (convert 190 9 (.slice (some ⟨g, a, none⟩) (b - a) c)).run Tryz.prog w = .ok (.string (runesBytes ((B.drop a).take (b - a)))) w := by
  have hr := run_convert_runes (P := Tryz.prog) w 190 9 21 ⟨g, a, none⟩ (b - a) c ((B.drop a).take (b - a)) (by rw [List.length_take, List.length_drop]; omega) Tryz.underlying190 Tryz.underlying21 Tryz.underlying9 (fun j hj => by
    rw [List.length_take, List.length_drop] at hj
    have hz : B[a + j]? = some (((B.drop a).take (b - a)).getD j 0) := by
      rw [List.getD_eq_getElem?_getD, List.getElem?_take, if_pos (by omega), List.getElem?_drop, List.getElem?_eq_getElem (show a + j < B.length by omega)]; rfl
    have := h.hb (a + j) _ hz
    rw [Go.WideShapes.add_plain]; exact this)
  rw [hr, List.take_take, Nat.min_self]
theorem part_lo {B R : List Int} {a b st : Nat} (h : b ≤ st) (hs : st ≤ B.length) : (B.drop a).take (b - a) = ((B.take st ++ R).drop a).take (b - a) := by
  apply List.ext_getElem?
  intro i
  rw [List.getElem?_take, List.getElem?_take]
  split
  · rw [List.getElem?_drop, List.getElem?_drop, List.getElem?_append_left (by rw [List.length_take]; omega), List.getElem?_take, if_pos (by omega)]
  · rfl
theorem part_hi {B : List Int} {a b st en : Nat} (h : st ≤ a) (h1 : st ≤ en) (hs : en ≤ B.length) : (B.drop (a + (en - st))).take (b - a) = ((B.take st ++ B.drop en).drop a).take (b - a) := by
  apply List.ext_getElem?
  intro i
  rw [List.getElem?_take, List.getElem?_take]
  split
  · rw [List.getElem?_drop, List.getElem?_drop, List.getElem?_append_right (by rw [List.length_take]; omega), List.getElem?_drop, List.length_take]
    congr 1
    omega
  · rfl
theorem part_mid {B : List Int} {a b st en : Nat} (h : a ≤ st) (hb : st ≤ b) (h1 : st ≤ en) (hs : en ≤ B.length) : (B.drop a).take (st - a) ++ (B.drop en).take (b - st) = ((B.take st ++ B.drop en).drop a).take (b - a) := by
  have e1 : (B.take st ++ B.drop en).drop a = (B.drop a).take (st - a) ++ B.drop en := by
    rw [List.drop_append_of_le_length (by rw [List.length_take]; omega), List.drop_take]
  have hl : ((B.drop a).take (st - a)).length = st - a := by rw [List.length_take, List.length_drop]; omega
  rw [e1, List.take_append, hl, show b - a - (st - a) = b - st by omega]
  congr 1
  exact (List.take_of_length_le (by rw [hl]; omega)).symm
theorem encS_part (cs : List Nat) (a n : Nat) : encS ((cs.drop a).take n) = runesBytes (((cs.map Int.ofNat).drop a).take n) := by
  unfold encS
  rw [List.map_take, List.map_drop]; rfl
set_option maxRecDepth 100000 in
set_option maxHeartbeats 4000000 in
theorem gslice_ok (h : GapR w t g cs) (x y : Nat) (h1 : 1 ≤ x) (h2 : x ≤ y) (h3 : y ≤ cs.length + 1) : Calls Tryz.prog 127 #[.pointer (some ⟨t, 0, none⟩), .int .i64 x, .int .i64 y] w fun e w' => e = .returned (.tuple #[.string (encS (subL cs x y)), .int .i64 0]) ∧ Below w.heap.size w w' := by
  have HSP := Lib.hid (gspan_ok h x y h1 h2 h3)
  obtain ⟨B, cap, st, en, h⟩ := h
  have hlen := h.len
  have hc := h.hc
  have hm := h.hm
  have q1 := h.h1
  have q2 := h.h2
  have HN := Lib.hid (gnone h)
  have H := Lib.hid h
  obtain ⟨a, ha⟩ : ∃ a, a + 1 = x := ⟨x - 1, by omega⟩
  obtain ⟨b, hb⟩ : ∃ b, b + 1 = y := ⟨y - 1, by omega⟩
  have s1 : IntKind.i64.wrap ((x : Int) - 1) = (a : Int) := by rw [IntWalk.i64_in _ (by omega)]; omega
  have s2 : IntKind.i64.wrap ((y : Int) - 1) = (b : Int) := by rw [IntWalk.i64_in _ (by omega)]; omega
  have hab : a ≤ b := by omega
  have hbn : b ≤ cs.length := by omega
  have HE : Hid (subL cs x y = (cs.drop a).take (b - a)) := Lib.hid (by unfold subL; rw [show x - 1 = a by omega, show y - x = b - a by omega])
  clear h h1 h2 h3
  go_enter Tryz.func127, Tryz.ntmps127
  go_wp2_with fail
  refine HN.out.mono ?_
  rintro e w1 ⟨rfl, rfl⟩
  go_wp2_with fail
  refine HSP.out.mono ?_
  rintro e w1 ⟨rfl, hb1⟩
  have h1 := H.out.up hb1
  have H1 := Lib.hid h1
  have c0 := h1.c0
  have c1 := h1.c1
  have c2 := h1.c2
  clear h1 H HSP HN
  by_cases hA : b ≤ st
  · have d1 : (b ≤ st) = True := by simp; omega
    have hcv := fun c => H1.out.conv a b c hab (by omega)
    rw [part_lo (R := B.drop en) hA (by omega), H1.out.hB, ← encS_part, ← HE.out] at hcv
    by_cases hca : cap = a
    · have hcv0 := fun c => H1.out.conv 0 0 c (Nat.le_refl _) (Nat.zero_le _)
      have e0 : b - a = 0 := by omega
      have e1 : subL cs x y = [] := by rw [HE.out, e0]; rfl
      have hcv1 : ∀ c, (convert 190 9 (.slice (some ⟨g, 0, none⟩) (b - a) c)).run Tryz.prog w1 = .ok (.string (encS (subL cs x y))) w1 := fun c => by rw [e0, e1]; exact hcv0 c
      clear hcv hcv0 e0 e1 HE
      go_wp2_with fail
      go_ret2
      exact ⟨rfl, hb1⟩
    · clear HE
      go_wp2_with fail
      go_ret2
      exact ⟨rfl, hb1⟩
  · have d1 : (b ≤ st) = False := by simp; omega
    by_cases hB : st ≤ a
    · have d2 : (st ≤ a) = True := by simp; omega
      have s3 : IntKind.i64.wrap ((a : Int) + (en : Int)) = ((a + en : Nat) : Int) := by rw [IntWalk.i64_in _ (by omega)]; omega
      have s4 : IntKind.i64.wrap (((a + en : Nat) : Int) - (st : Int)) = ((a + (en - st) : Nat) : Int) := by rw [IntWalk.i64_in _ (by omega)]; omega
      have s5 : IntKind.i64.wrap ((b : Int) + (en : Int)) = ((b + en : Nat) : Int) := by rw [IntWalk.i64_in _ (by omega)]; omega
      have s6 : IntKind.i64.wrap (((b + en : Nat) : Int) - (st : Int)) = ((b + (en - st) : Nat) : Int) := by rw [IntWalk.i64_in _ (by omega)]; omega
      obtain ⟨a', ha'⟩ : ∃ a', a + (en - st) = a' := ⟨_, rfl⟩
      obtain ⟨b', hb'⟩ : ∃ b', b + (en - st) = b' := ⟨_, rfl⟩
      obtain ⟨a2, ha2⟩ : ∃ a2, a + en = a2 := ⟨_, rfl⟩
      obtain ⟨b2, hb2⟩ : ∃ b2, b + en = b2 := ⟨_, rfl⟩
      rw [ha2] at s3 s4
      rw [hb2] at s5 s6
      rw [ha'] at s4
      rw [hb'] at s6
      have hab' : a' ≤ b' := by omega
      have hbB : b' ≤ B.length := by omega
      have hcv : ∀ (X : UpW w1.heap.size w1) c, (convert 190 9 (.slice (some ⟨g, a', none⟩) (b' - a') c)).run Tryz.prog X.w = .ok (.string (encS (subL cs x y))) X.w := fun X c => by
        rw [(H1.out.up X.up).conv a' b' c hab' hbB, HE.out, encS_part, ← H1.out.hB, ← part_hi hB q1 q2, ha', show b' - a' = b - a by omega]
      have C0 : ∀ X : UpW w1.heap.size w1, X.w.cell? ⟨t, 0, none⟩ = _ := fun X => (H1.out.up X.up).c0
      have C1 : ∀ X : UpW w1.heap.size w1, X.w.cell? ⟨t, 1, none⟩ = _ := fun X => (H1.out.up X.up).c1
      have C2 : ∀ X : UpW w1.heap.size w1, X.w.cell? ⟨t, 2, none⟩ = _ := fun X => (H1.out.up X.up).c2
      have hbc : b' ≤ cap := by omega
      by_cases hca : cap = a'
      · have hcv1 : ∀ (X : UpW w1.heap.size w1) c, (convert 190 9 (.slice (some ⟨g, 0, none⟩) (b' - a') c)).run Tryz.prog X.w = .ok (.string (encS (subL cs x y))) X.w := fun X c => by
          have e0 : b' - a' = 0 := by omega
          have e1 : subL cs x y = [] := by rw [HE.out, show b - a = 0 by omega]; rfl
          rw [e0, e1]; exact (H1.out.up X.up).conv 0 0 c (Nat.le_refl _) (Nat.zero_le _)
        clear ha' hb' ha2 hb2 ha hb HE hcv
        go_wp2_with fail
        refine wp_region_up w1.heap.size (by kernel_rfl) (by kernel_rfl) ?_
        repeat (go_big_quiet_step (fail))
        refine wpQuiet_nil ?_
        rintro ⟨w2, hbb⟩
        dsimp only
        clear C0 C1 C2
        go_wp2_with fail
        go_ret2
        exact ⟨rfl, up2 hb1 hbb⟩
      · clear ha' hb' ha2 hb2 ha hb HE
        go_wp2_with fail
        refine wp_region_up w1.heap.size (by kernel_rfl) (by kernel_rfl) ?_
        repeat (go_big_quiet_step (fail))
        refine wpQuiet_nil ?_
        rintro ⟨w2, hbb⟩
        dsimp only
        clear C0 C1 C2
        go_wp2_with fail
        go_ret2
        exact ⟨rfl, up2 hb1 hbb⟩
    · have d2 : (st ≤ a) = False := by simp; omega
      have s5 : IntKind.i64.wrap ((b : Int) + (en : Int)) = ((b + en : Nat) : Int) := by rw [IntWalk.i64_in _ (by omega)]; omega
      have s6 : IntKind.i64.wrap (((b + en : Nat) : Int) - (st : Int)) = ((b + (en - st) : Nat) : Int) := by rw [IntWalk.i64_in _ (by omega)]; omega
      obtain ⟨b', hb'⟩ : ∃ b', b + (en - st) = b' := ⟨_, rfl⟩
      obtain ⟨b2, hb2⟩ : ∃ b2, b + en = b2 := ⟨_, rfl⟩
      rw [hb2] at s5 s6
      rw [hb'] at s6
      have hab' : en ≤ b' := by omega
      have hbB : b' ≤ B.length := by omega
      have hbc : b' ≤ cap := by omega
      have has : a ≤ st := by omega
      have hsc : st ≤ cap := by omega
      have hca : ¬ cap = a := by omega
      have hce : ¬ cap = en := by omega
      obtain ⟨S1, hS1⟩ : ∃ S1, runesBytes ((B.drop a).take (st - a)) = S1 := ⟨_, rfl⟩
      obtain ⟨S2, hS2⟩ : ∃ S2, runesBytes ((B.drop en).take (b' - en)) = S2 := ⟨_, rfl⟩
      have hcv1 : ∀ (X : UpW w1.heap.size w1) c, (convert 190 9 (.slice (some ⟨g, a, none⟩) (st - a) c)).run Tryz.prog X.w = .ok (.string S1) X.w := fun X c => by
        rw [(H1.out.up X.up).conv a st c has (by omega), hS1]
      have hcv2 : ∀ (X : UpW w1.heap.size w1) c, (convert 190 9 (.slice (some ⟨g, en, none⟩) (b' - en) c)).run Tryz.prog X.w = .ok (.string S2) X.w := fun X c => by
        rw [(H1.out.up X.up).conv en b' c hab' hbB, hS2]
      have hfin : encS (subL cs x y) = S1 ++ S2 := by
        rw [HE.out, encS_part, ← H1.out.hB, ← part_mid has (by omega) q1 q2, ← hS1, ← hS2, show b' - en = b - st by omega]
        apply bytes_ext
        have hr := fun (l : List Int) (s : ByteArray) => (show (l.foldl (fun r n => r ++ Utf8.encode n) s).data.toList = s.data.toList ++ l.flatMap (fun n => (Utf8.encode n).data.toList) from by
          induction l generalizing s with
          | nil => simp
          | cons c l ih => rw [List.foldl_cons, ih]; simp)
        unfold runesBytes
        rw [hr, List.flatMap_append]
        simp only [ByteArray.data_append, Array.toList_append, hr]
        simp
      have HF := Lib.hid hfin
      have z1 : S1.size ≤ 4 * B.length := by
        have := runesBytes_size_le ((B.drop a).take (st - a))
        rw [hS1, List.length_take, List.length_drop] at this; omega
      have z2 : S2.size ≤ 4 * B.length := by
        have := runesBytes_size_le ((B.drop en).take (b' - en))
        rw [hS2, List.length_take, List.length_drop] at this; omega
      have hadd : ∀ w, (binOp .add 9 (.string S1) (.string S2)).run Tryz.prog w = .ok (.string (S1 ++ S2)) w := fun w => by
        rw [binOp_string_add]; exact run_string_add_sum _ S1 S2 (by omega)
      have C0 : ∀ X : UpW w1.heap.size w1, X.w.cell? ⟨t, 0, none⟩ = _ := fun X => (H1.out.up X.up).c0
      have C1 : ∀ X : UpW w1.heap.size w1, X.w.cell? ⟨t, 1, none⟩ = _ := fun X => (H1.out.up X.up).c1
      have C2 : ∀ X : UpW w1.heap.size w1, X.w.cell? ⟨t, 2, none⟩ = _ := fun X => (H1.out.up X.up).c2
      clear hb' hb2 ha hb HE hS1 hS2 hfin
      go_wp2_with fail
      refine wp_region_up w1.heap.size (by kernel_rfl) (by kernel_rfl) ?_
      repeat (go_big_quiet_step (fail))
      refine wpQuiet_nil ?_
      rintro ⟨w2, hbb⟩
      dsimp only
      clear C0 C1 C2
      go_wp2_with fail
      go_ret2
      exact ⟨by rw [HF.out]; rfl, up2 hb1 hbb⟩
end
end Go.Proofs.YtcfdalmllegefaaGreatDoor
/- A region that draws its order: pure operations first; where two others come up at once, both ways. -/
namespace Go.Proofs.YtcfdalmllegefaaGreatDoor
open Go.RowKit
set_option linter.unusedVariables false
/-- How a region is walked. -/
inductive PlanT where
  | done (last : List Nat)
  | one (seg : List Nat) (i : Nat) (r : PlanT)
  | two (seg : List Nat) (i : Nat) (r : PlanT) (j : Nat) (s : PlanT)
section
variable {P : Program} {md : Region.Mode} {S : World → Prop} {Q : Exit → Act → World → Prop}
def wpMixT (P : Program) (l : List Oper) (S : World → Prop) (Q : Exit → Act → World → Prop) (T : Act → World → Prop) : PlanT → Act → World → Prop
  | .done last, a, w => wpQuiet P l.toArray S (fun a' => T a' w) (pk l last) a
  | .one seg i r, a, w => wpQuiet P l.toArray S (fun a' => wpList P l.toArray (thenQ Q fun a'' w'' => S w'' ∧ wpMixT P l S Q T r a'' w'') (pk l [i]) a' w) (pk l seg) a
  | .two seg i r j s, a, w => wpQuiet P l.toArray S (fun a' => wpList P l.toArray (thenQ Q fun a'' w'' => S w'' ∧ wpMixT P l S Q T r a'' w'') (pk l [i]) a' w ∧ wpList P l.toArray (thenQ Q fun a'' w'' => S w'' ∧ wpMixT P l S Q T s a'' w'') (pk l [j]) a' w) (pk l seg) a
def cntT : PlanT → Nat
  | .done last => last.length
  | .one seg _ r => seg.length + 1 + cntT r
  | .two seg _ r _ _ => seg.length + 1 + cntT r
def mixTB (md : Region.Mode) (l : List Oper) (n : Nat) : PlanT → Array Bool → Bool
  | .done last, listed => match segB md l n last listed with
    | none => false
    | some l' => Region.seqB md l.toArray (l.length - n) n l'
  | .one seg i r, listed => match segB md l n seg listed with
    | none => false
    | some l' => decide (Region.ready md l.toArray l' = [i]) && decide (i < n) && mixTB md l n r (l'.setIfInBounds i true)
  | .two seg i r j s, listed => match segB md l n seg listed with
    | none => false
    | some l' => decide (Region.ready md l.toArray l' = [i, j]) && decide (i < n) && decide (j < n) && decide (cntT r = cntT s) && mixTB md l n r (l'.setIfInBounds i true) && mixTB md l n s (l'.setIfInBounds j true)
def mixTAll (l : List Oper) (n : Nat) (plan : PlanT) : Bool :=
  Region.noSelect l.toArray && (decide (n = l.length) || (decide (n < l.length) && Region.sinkB .any l.toArray n && Region.chainB .any l.toArray n)) && decide (cntT plan = n) && mixTB .any l n plan (Array.replicate l.length false)

theorem mixT_headM {l : List Oper} {n : Nat} (hsel : Region.noSelect l.toArray = true) (hQ : ∀ c d v a w, Q (.panic c) (Act.put a d v) w → Q (.panic c) a w)
    (htw : ∀ listed, HeadInv md l.toArray n listed → ∀ i, i < n → listed.getD i true = false → ∀ t, n ≤ t → t ∉ Region.ready md l.toArray listed) :
    ∀ (plan : PlanT) (listed : Array Bool) (a : Act) (w : World), HeadInv md l.toArray n listed → mixTB md l n plan listed = true → S w →
      wpMixT P l S Q (fun a w => wpList P l.toArray Q (l.drop n) a w) plan a w →
      headM P md l.toArray S Q n (fun listed a w => Region.seqB md l.toArray (l.length - n) n listed = true ∧ wpList P l.toArray Q (l.drop n) a w) (cntT plan) listed a w
  | .done last, listed, a, w, inv, hB, hS, h => by
    unfold mixTB at hB
    split at hB
    · cases hB
    · rename_i l' hl'
      have := seg_headM (P := P) (S := S) (Q := Q) (L := fun listed a w => Region.seqB md l.toArray (l.length - n) n listed = true ∧ wpList P l.toArray Q (l.drop n) a w) hsel hQ htw (fun listed a w h => seqB_ready h.1) last listed l' 0 _ a w inv hl' hS h (fun _ a' h' => ⟨hB, h'⟩)
      simpa [cntT] using this
  | .one seg i r, listed, a, w, inv, hB, hS, h => by
    unfold mixTB at hB
    split at hB
    · cases hB
    · rename_i l' hl'
      simp only [Bool.and_eq_true, decide_eq_true_eq] at hB
      obtain ⟨⟨hr, hin⟩, hB⟩ := hB
      have := seg_headM (P := P) (S := S) (Q := Q) (L := fun listed a w => Region.seqB md l.toArray (l.length - n) n listed = true ∧ wpList P l.toArray Q (l.drop n) a w) hsel hQ htw (fun listed a w h => seqB_ready h.1) seg listed l' (1 + cntT r) _ a w inv hl' hS h (fun inv' a' h' => by
        rw [Nat.add_comm 1]
        refine ⟨by rw [hr]; simp, fun j hj => ?_⟩
        have hj0 := hj
        rw [hr] at hj
        have hji : j = i := by simpa using hj
        subst hji
        refine ⟨hin, ?_⟩
        obtain ⟨_, oj, hoj, _⟩ := mem_ready.1 hj0
        have e : pk l [j] = [oj] := by
          have : l[j]? = some oj := by simpa using hoj
          rw [pk_cons, pushAt_eq _ _ _ this]; rfl
        rw [e] at h'
        exact wpOp_mono (fun a'' w'' h3 => ⟨h3.1, mixT_headM hsel hQ htw r _ a'' w'' (inv'.set hj0 hin) hB h3.1 h3.2⟩) (wpOp_of_list hoj h'))
      simp only [cntT]
      rwa [show seg.length + 1 + cntT r = seg.length + (1 + cntT r) by omega]
  | .two seg i r j s, listed, a, w, inv, hB, hS, h => by
    unfold mixTB at hB
    split at hB
    · cases hB
    · rename_i l' hl'
      simp only [Bool.and_eq_true, decide_eq_true_eq] at hB
      obtain ⟨⟨⟨⟨⟨hr, hin⟩, hjn⟩, hc⟩, hB⟩, hB2⟩ := hB
      have := seg_headM (P := P) (S := S) (Q := Q) (L := fun listed a w => Region.seqB md l.toArray (l.length - n) n listed = true ∧ wpList P l.toArray Q (l.drop n) a w) hsel hQ htw (fun listed a w h => seqB_ready h.1) seg listed l' (1 + cntT r) _ a w inv hl' hS h (fun inv' a' h' => by
        rw [Nat.add_comm 1]
        refine ⟨by rw [hr]; simp, fun t ht => ?_⟩
        have ht0 := ht
        rw [hr] at ht
        obtain ⟨_, ot, hot, _⟩ := mem_ready.1 ht0
        have e : pk l [t] = [ot] := by
          have : l[t]? = some ot := by simpa using hot
          rw [pk_cons, pushAt_eq _ _ _ this]; rfl
        have hti : t = i ∨ t = j := by simpa using ht
        rcases hti with rfl | rfl
        · refine ⟨hin, ?_⟩
          have h1 := h'.1
          rw [e] at h1
          exact wpOp_mono (fun a'' w'' h3 => ⟨h3.1, mixT_headM hsel hQ htw r _ a'' w'' (inv'.set ht0 hin) hB h3.1 h3.2⟩) (wpOp_of_list hot h1)
        · refine ⟨hjn, ?_⟩
          have h1 := h'.2
          rw [e] at h1
          rw [hc]
          exact wpOp_mono (fun a'' w'' h3 => ⟨h3.1, mixT_headM hsel hQ htw s _ a'' w'' (inv'.set ht0 hjn) hB2 h3.1 h3.2⟩) (wpOp_of_list hot h1))
      simp only [cntT]
      rwa [show seg.length + 1 + cntT r = seg.length + (1 + cntT r) by omega]
end
theorem wp_region_mixT {P : Program} {id : Nat} {Q : Exit → Act → World → Prop} {a : Act} {w : World} {l : List Oper} (N n : Nat) (plan : PlanT) (hm : P.follows .mixedOrders = true) (hQ : ∀ c d v a w, Q (.panic c) (Act.put a d v) w → Q (.panic c) a w)
    (hB : mixTAll l n plan = true)
    (h : wpMixT P l (fun w' => ∃ x : UpW N w, w' = x.w) Q (fun a w1 => wpList P l.toArray Q (l.drop n) a w1) plan a w.drew) : (Code.region id l.toArray true).wp P Q a w := by
  simp only [mixTAll, Bool.and_eq_true, Bool.or_eq_true, decide_eq_true_eq] at hB
  obtain ⟨⟨⟨hsel, hn⟩, hcnt⟩, hmix⟩ := hB
  have hnl : n ≤ l.length := by rcases hn with h | h <;> omega
  have inv0 : HeadInv .any l.toArray n (Array.replicate l.length false) :=
    ⟨by simp, fun j oj _ hl => (by rw [getD_replicate_false] at hl; cases hl), fun t _ ht => getD_in (by simpa using ht) (getD_replicate_false _ _)⟩
  have htw : ∀ listed, HeadInv .any l.toArray n listed → ∀ i, i < n → listed.getD i true = false → ∀ t, n ≤ t → t ∉ Region.ready .any l.toArray listed := fun listed inv i hi hun t ht hr => by
    rcases hn with hn | ⟨⟨hn, hs⟩, hc⟩
    · obtain ⟨_, ot, hot, _⟩ := mem_ready.1 hr
      have := (Array.getElem?_eq_some_iff.1 hot).1
      simp at this
      omega
    · exact tail_waits hs hc (by simpa using hn) inv _ i rfl hi hun t ht hr
  have H := mixT_headM (md := .any) hsel hQ htw plan _ a w.drew inv0 hmix ⟨⟨w.drew, (Below.refl N w).drew⟩, rfl⟩ h
  refine wp_region_any hm ?_
  have key := any_of_headM (Q := Q) (g := l.length - n) (fun listed a' w' hL => by
    have := wpAny_of_seq (md := .any) (Q' := Q) (l.drop n) n listed a' w' (fun j => by simp [List.getElem?_drop]) (by rw [List.length_drop]; exact hL.1) hL.2
    rwa [List.length_drop] at this) _ _ _ _ H
  rw [hcnt, show n + (l.length - n) = l.toArray.size by simp; omega] at key
  simpa using key
/-- A world in which nothing old has turned but blocks in T. -/
structure OnW (T : Nat → Prop) (w0 : World) where
  w : World
  on : Only T w0 w
instance OnW.some (T : Nat → Prop) (w0 : World) : Nonempty (OnW T w0) := ⟨⟨w0, Only.refl T w0⟩⟩
/-- The same, for a region whose operations may turn blocks in T. -/
theorem wp_region_mixO {P : Program} {id : Nat} {Q : Exit → Act → World → Prop} {a : Act} {w : World} {l : List Oper} (T : Nat → Prop) (n : Nat) (plan : PlanT) (hm : P.follows .mixedOrders = true) (hQ : ∀ c d v a w, Q (.panic c) (Act.put a d v) w → Q (.panic c) a w)
    (hB : mixTAll l n plan = true)
    (h : wpMixT P l (fun w' => ∃ x : OnW T w, w' = x.w) Q (fun a w1 => wpList P l.toArray Q (l.drop n) a w1) plan a w.drew) : (Code.region id l.toArray true).wp P Q a w := by
  simp only [mixTAll, Bool.and_eq_true, Bool.or_eq_true, decide_eq_true_eq] at hB
  obtain ⟨⟨⟨hsel, hn⟩, hcnt⟩, hmix⟩ := hB
  have hnl : n ≤ l.length := by rcases hn with h | h <;> omega
  have inv0 : HeadInv .any l.toArray n (Array.replicate l.length false) :=
    ⟨by simp, fun j oj _ hl => (by rw [getD_replicate_false] at hl; cases hl), fun t _ ht => getD_in (by simpa using ht) (getD_replicate_false _ _)⟩
  have htw : ∀ listed, HeadInv .any l.toArray n listed → ∀ i, i < n → listed.getD i true = false → ∀ t, n ≤ t → t ∉ Region.ready .any l.toArray listed := fun listed inv i hi hun t ht hr => by
    rcases hn with hn | ⟨⟨hn, hs⟩, hc⟩
    · obtain ⟨_, ot, hot, _⟩ := mem_ready.1 hr
      have := (Array.getElem?_eq_some_iff.1 hot).1
      simp at this
      omega
    · exact tail_waits hs hc (by simpa using hn) inv _ i rfl hi hun t ht hr
  have H := mixT_headM (md := .any) hsel hQ htw plan _ a w.drew inv0 hmix ⟨⟨w.drew, (Only.refl T w).drew⟩, rfl⟩ h
  refine wp_region_any hm ?_
  have key := any_of_headM (Q := Q) (g := l.length - n) (fun listed a' w' hL => by
    have := wpAny_of_seq (md := .any) (Q' := Q) (l.drop n) n listed a' w' (fun j => by simp [List.getElem?_drop]) (by rw [List.length_drop]; exact hL.1) hL.2
    rwa [List.length_drop] at this) _ _ _ _ H
  rw [hcnt, show n + (l.length - n) = l.toArray.size by simp; omega] at key
  simpa using key
end Go.Proofs.YtcfdalmllegefaaGreatDoor
