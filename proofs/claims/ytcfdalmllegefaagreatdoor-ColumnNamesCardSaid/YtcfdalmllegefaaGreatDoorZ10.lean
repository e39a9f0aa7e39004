import Derived.Test.YtcfdalmllegefaaGreatDoorZ06
import Derived.Test.YtcfdalmllegefaaGreatDoorZ04
import Derived.Test.YtcfdalmllegefaaGreatDoorZ02
import Derived.Test.YtcfdalmllegefaaGreatDoorZ09
import Derived.Test.YtcfdalmllegefaaGreatDoorZ03
import Derived.Lib.FieldsP
import Derived.Test.YtcfdalmllegefaaGreatDoorLayK
import Derived.Shelf.Strings.Builder1
import Derived.Shelf.Strings.Repeat
import Derived.Test.YtcfdalmllegefaaGreatDoorLayF
import Derived.Test.YtcfdalmllegefaaGreatDoorZ01
import Derived.Shelf.Strings.BuilderK
/- package column: after, the view's begin and end, tabbed. -/
namespace Go.Proofs.YtcfdalmllegefaaGreatDoor
open Go.RowKit
set_option linter.unusedVariables false
set_option linter.unusedSimpArgs false
/-- A view of a buffer, as a value. -/
abbrev vwV (b lo hi tab : Nat) : Value := .agg #[.pointer (some ⟨b, 0, none⟩), .int .i64 lo, .int .i64 hi, .int .i64 tab]
section
variable {w w' : World} {b pt lo hi : Nat} {cs : List Nat}
set_option maxHeartbeats 1000000 in
theorem after_ok (col c tab : Nat) (hc : isN c) (h1 : 1 ≤ tab) (h2 : tab ≤ 64) (h3 : col ≤ 100000000) (w : World) :
    Calls Tryz.prog 134 #[.int .i64 col, .int .i64 c, .int .i64 tab] w fun e w' => e = .returned (.int .i64 (afterN widN tab col c)) ∧ Below w.heap.size w w' := by
  unfold afterN
  by_cases h9 : c = 9
  · subst h9
    rw [if_pos rfl]
    have hm := Nat.mod_lt col (show 0 < tab by omega)
    have s1 : IntKind.i64.wrap ((col : Int) + (tab : Int)) = ((col + tab : Nat) : Int) := by rw [IntWalk.i64_in _ (by omega)]; omega
    have e2 : (Int.tmod (col : Int) (tab : Int)) = ((col % tab : Nat) : Int) := (Int.ofNat_tmod _ _).symm
    have s2 : IntKind.i64.wrap ((col % tab : Nat) : Int) = ((col % tab : Nat) : Int) := IntWalk.i64_in _ (by omega)
    generalize hM : col % tab = M at *
    have s3 : IntKind.i64.wrap (((col + tab : Nat) : Int) - (M : Int)) = ((col + tab - M : Nat) : Int) := by rw [IntWalk.i64_in _ (by omega)]; omega
    have d1 : decide ((tab : Int) = 0) = false := decide_eq_false (by omega)
    clear hM
    go_enter Tryz.func134, Tryz.ntmps134
    go_wp2_with fail
    go_ret
    exact ⟨ret_int (by omega), Below.refl _ w⟩
  · rw [if_neg h9]
    have HW := Lib.hid (width_ok c hc w)
    have hw := widN_le c
    have d1 : decide ((c : Int) = 9) = false := decide_eq_false (by omega)
    have s1 : IntKind.i64.wrap ((col : Int) + (widN c : Int)) = ((col + widN c : Nat) : Int) := by rw [IntWalk.i64_in _ (by omega)]; omega
    clear hw h1 h2 h3 hc
    go_enter Tryz.func134, Tryz.ntmps134
    go_wp2_with fail
    refine HW.out.mono ?_
    rintro e w' ⟨rfl, hb⟩
    go_wp2_with fail
    go_ret
    exact ⟨rfl, hb⟩
set_option maxHeartbeats 1000000 in
theorem tabbed_ok (tab : Nat) (h1 : 1 ≤ tab) (h2 : tab ≤ 64) (w : World) : Calls Tryz.prog 47 #[.int .i64 tab] w fun e w' => e = .returned (.bool true) ∧ w = w' := by
  have d1 : decide ((1 : Int) ≤ (tab : Int)) = true := decide_eq_true (by omega)
  have d2 : decide ((tab : Int) ≤ (64 : Int)) = true := decide_eq_true (by omega)
  clear h1 h2
  go_enter Tryz.func47, Tryz.ntmps47
  go_wp2_with fail
  go_ret
  exact ⟨rfl, rfl⟩
set_option maxHeartbeats 1000000 in
theorem vbegin (h : BufR w b cs pt lo hi) (tab k : Nat) (h1 : 1 ≤ lo) (h2 : lo ≤ k) (h3 : k ≤ hi) :
    Calls Tryz.prog 55 #[vwV b lo hi tab, .int .i64 k] w fun e w' => e = .returned (.int .i64 (lineB cs lo k)) ∧ Below w.heap.size w w' := by
  obtain ⟨R, hR⟩ : ∃ R, R = lineB cs lo k := ⟨_, rfl⟩
  rw [← hR]
  have HR := Lib.hid hR
  have hl := h.len
  have HH := Lib.hid h
  clear hR h
  go_enter Tryz.func55, Tryz.ntmps55
  go_wp2_with fail
  refine (bfindback (HH.out.up (below1 w _)) 10 lo k h1 (by omega) (by omega)).mono ?_
  rintro e w1 ⟨hb1, hf⟩
  have HB := Lib.hid (up2 (below1 w _) hb1)
  have v1 : w1.cell? ⟨w.heap.size, 1, none⟩ = some (.int .i64 lo) := by
    rw [World.cell?_of_block (hb1.block w.heap.size (by simp))]
    simp only [World.cell?, (MapKept.heap_alloc _ _).1]
    rfl
  clear hb1
  rcases hf with ⟨i, i1, i2, i3, i4, rfl⟩ | ⟨i1, rfl⟩
  · have s1 : IntKind.i64.wrap ((i : Int) + 1) = ((i + 1 : Nat) : Int) := by rw [IntWalk.i64_in _ (by omega)]; omega
    obtain rfl : R = i + 1 := HR.out.trans (lineB_eq k (i + 1) (by omega) (by omega) (fun j hj hk => i4 j (by omega) hk) (.inr ⟨by omega, i3⟩))
    go_wp2_with fail
    go_ret
    exact ⟨rfl, HB.out⟩
  · obtain rfl : R = lo := HR.out.trans (lineB_eq k lo (by omega) (by omega) i1 (.inl rfl))
    go_wp2_with fail
    go_ret
    exact ⟨rfl, HB.out⟩
theorem lineE_eq (cs : List Nat) (hi i e : Nat) (h1 : i ≤ e) (h2 : e ≤ hi) (h3 : ∀ j, i ≤ j → j < e → chr cs j ≠ 10) (h4 : e = hi ∨ chr cs e = 10) : lineE cs hi i = e := by
  have a1 := lineE_ge (cs := cs) (hi := hi) i
  have a2 := lineE_le (cs := cs) (hi := hi) i (by omega)
  have a4 := lineE_at (cs := cs) (hi := hi) i (by omega)
  rcases Nat.lt_trichotomy (lineE cs hi i) e with h | h | h
  · rcases a4 with a | ⟨_, a⟩
    · omega
    · exact absurd a (h3 _ a1 h)
  · exact h
  · rcases h4 with a | a
    · omega
    · exact absurd a (lineE_no (hi := hi) i e h1 h)
set_option maxHeartbeats 1000000 in
theorem vend (h : BufR w b cs pt lo hi) (tab k : Nat) (h1 : 1 ≤ k) (h3 : k ≤ hi) :
    Calls Tryz.prog 61 #[vwV b lo hi tab, .int .i64 k] w fun e w' => e = .returned (.int .i64 (lineE cs hi k)) ∧ Below w.heap.size w w' := by
  obtain ⟨R, hR⟩ : ∃ R, R = lineE cs hi k := ⟨_, rfl⟩
  rw [← hR]
  have HR := Lib.hid hR
  have hl := h.len
  have HH := Lib.hid h
  clear hR h
  go_enter Tryz.func61, Tryz.ntmps61
  go_wp2_with fail
  refine (bfind (HH.out.up (below1 w _)) 10 k hi h1 (by omega) (by omega)).mono ?_
  rintro e w1 ⟨hb1, hf⟩
  have HB := Lib.hid (up2 (below1 w _) hb1)
  have v1 : w1.cell? ⟨w.heap.size, 2, none⟩ = some (.int .i64 hi) := by
    rw [World.cell?_of_block (hb1.block w.heap.size (by simp))]
    simp only [World.cell?, (MapKept.heap_alloc _ _).1]
    rfl
  clear hb1
  rcases hf with ⟨i, i1, i2, i3, i4, rfl⟩ | ⟨i1, rfl⟩
  · obtain rfl : R = i := HR.out.trans (lineE_eq cs hi k i i1 (by omega) i4 (.inr i3))
    go_wp2_with fail
    go_ret
    exact ⟨rfl, HB.out⟩
  · obtain rfl : R = hi := HR.out.trans (lineE_eq cs hi k hi h3 (by omega) i1 (.inl rfl))
    go_wp2_with fail
    go_ret
    exact ⟨rfl, HB.out⟩
end
end Go.Proofs.YtcfdalmllegefaaGreatDoor
/- package column: width. -/
namespace Go.Proofs.YtcfdalmllegefaaGreatDoor
open Go.RowKit Go.Lib
set_option linter.unusedVariables false
set_option linter.unusedSimpArgs false
theorem widthC_le {tab : Nat} (ht : tab ≤ 64) : ∀ (cs : List Nat) (col : Nat), widthC tab widN col cs ≤ col + 64 * cs.length
  | [], col => by unfold widthC; simp
  | c :: cs, col => by
    have h1 := widthC_le ht cs (afterN widN tab col c)
    have h2 := afterN_le (wid := widN) widN_le ht col c
    show widthC tab widN (afterN widN tab col c) cs ≤ _
    rw [List.length_cons]; omega
section
variable {w w' : World}
set_option maxRecDepth 100000 in
set_option maxHeartbeats 2000000 in
theorem cwidth_ok {s : ByteArray} {cs : List Nat} (h : charsD s.data.toList = some cs) (hs : s.size ≤ 100000) (col tab : Nat) (hcol : col ≤ 10000000) (ht1 : 1 ≤ tab) (ht2 : tab ≤ 64) (w : World) :
    Calls Tryz.prog 115 #[.int .i64 col, .string s, .int .i64 tab] w fun e w' => e = .returned (.int .i64 (widthC tab widN col cs : Nat)) ∧ Below w.heap.size w w' := by
  have hlen : cs.length ≤ 100000 := by
    have := chars_len _ _ _ (Nat.le_refl _) h
    rw [size_len] at this; omega
  have HCS := Lib.hid h
  have HT := Lib.hid (⟨ht1, ht2⟩ : _ ∧ _)
  obtain ⟨R, hR⟩ : ∃ R, R = widthC tab widN col cs := ⟨_, rfl⟩
  rw [← hR]
  have HR := Lib.hid hR
  clear h ht1 ht2 hR
  go_enter Tryz.func115, Tryz.ntmps115
  go_wp2_with fail
  have hit := w.iter_heap s 0
  have hsz : (w.iter s 0).heap.size = w.heap.size + 1 := by simp [World.iter]
  have HBi := Lib.hid (show Below w.heap.size w (w.iter s 0) from below1 w _)
  generalize w.iter s 0 = W at *
  go_loopw [0, 8] (fun va vb wr => ∃ (p : Nat) (pre rest : List Nat), p ≤ s.size ∧ cs = pre ++ rest ∧ charsD (s.data.toList.drop p) = some rest ∧ wr.heap[w.heap.size]? = some (.stringIter s p) ∧ va = .int .i64 (widthC tab widN col pre : Nat) ∧ Below w.heap.size w wr ∧ w.heap.size + 1 ≤ wr.heap.size) (fun _ _ wr => s.size - wr.iterPos w.heap.size)
  case atStart => exact ⟨0, [], cs, Nat.zero_le _, rfl, by simpa using HCS.out, hit, rfl, HBi.out, by omega⟩
  case round =>
    obtain ⟨p, pre, rest, hp, hcs, hrest, hit, rfl, hbel, hsz2⟩ := hrel
    clear hsz
    by_cases hlt : p < s.size
    · obtain ⟨c, rest', hrc, hd1, hd2, hd3, hd4, hc⟩ := decode_step hlt hrest
      subst hrc
      have hnx := fun ty => Lib.run_next_any_at (P := Tryz.prog) wr w.heap.size s p ty hit hlt
      rw [hd1] at hnx
      have hit1 := Lib.iterAt_heap wr w.heap.size s p (p + (Utf8.decode s p).2) hit
      have hoth := fun j (hj : j ≠ w.heap.size) => Lib.iterAt_other wr w.heap.size j s (p + (Utf8.decode s p).2) hj
      have hsz1 := Lib.iterAt_size wr w.heap.size s (p + (Utf8.decode s p).2)
      have hip : (wr.iterPos w.heap.size) = p := iterPos_of hit
      rw [hip]
      have hpp : p < p + (Utf8.decode s p).2 := by omega
      have hbel1 : Below w.heap.size w (wr.iterAt w.heap.size s (p + (Utf8.decode s p).2)) := hbel.trans ⟨rfl, rfl, rfl, by rw [hsz1]; exact Nat.le_refl _, fun j hj => hoth j (by omega)⟩
      clear hd1 hd2
      generalize p + (Utf8.decode s p).2 = p' at *
      generalize wr.iterAt w.heap.size s p' = w2 at *
      have hsz1' : w.heap.size + 1 ≤ w2.heap.size := by rw [hsz1]; exact hsz2
      clear hsz1
      have s1 : IntKind.i64.wrap (c : Int) = (c : Int) := IntWalk.i64_in _ (by unfold isN at hc; omega)
      have hl : pre.length ≤ cs.length := by rw [hcs]; simp
      have hwl := widthC_le HT.out.2 pre col
      have hstep : widthC tab widN col (pre ++ [c]) = afterN widN tab (widthC tab widN col pre) c := by rw [widthC_app]; rfl
      have HA := Lib.hid (after_ok (widthC tab widN col pre) c tab hc HT.out.1 HT.out.2 (by omega) w2)
      rw [← hstep] at HA
      have HNX := Lib.hid hnx
      have HC := Lib.hid (⟨hcs, hd4, hd3⟩ : _ ∧ _ ∧ _)
      have HB1 := Lib.hid hbel1
      have HI1 := Lib.hid hit1
      obtain ⟨K, hK⟩ : ∃ K, K = widthC tab widN col (pre ++ [c]) := ⟨_, rfl⟩
      rw [← hK] at HA
      have HKK := Lib.hid hK
      generalize widthC tab widN col pre = G at *
      clear hstep hwl hcs hd4 hd3 hbel1 hit1 hoth hK hl hc hrest hbel
      go_wp2_with fail
      refine HA.out.mono ?_
      rintro e w3 ⟨rfl, hb3⟩
      have hit2 := (hb3.block w.heap.size (by omega)).trans HI1.out
      have HI2 := Lib.hid hit2
      have B3 := Lib.hid (HB1.out.trans (hb3.mono (by omega)))
      have z3 := hb3.size
      clear hit2 hb3
      go_wp2_with fail
      go_roundw
      case rel => exact ⟨p', pre ++ [c], rest', HC.out.2.2, by rw [HC.out.1, List.append_assoc]; rfl, HC.out.2.1, HI2.out, by rw [HKK.out], B3.out, by omega⟩
      case measure => rw [iterPos_of HI2.out]; omega
    · have hp2 : p = s.size := by omega
      have hrn : rest = [] := by
        have : s.data.toList.drop p = [] := List.drop_eq_nil_of_le (by rw [hp2]; simp)
        rw [this, charsD_nil] at hrest
        cases hrest; rfl
      subst hrn
      rw [List.append_nil] at hcs
      have hnx := fun ty => Lib.run_next_end_at (P := Tryz.prog) wr w.heap.size s p ty hit hlt
      rw [← hcs, ← HR.out]
      go_wp2_with fail
      go_ret
      exact ⟨rfl, hbel⟩
end
end Go.Proofs.YtcfdalmllegefaaGreatDoor
/- strings.FieldsFunc at a valid string, in plain Lean: its pieces are the words. -/
namespace Go.Proofs.YtcfdalmllegefaaGreatDoor
open Go.RowKit Go.Lib
set_option linter.unusedVariables false
set_option linter.unusedSimpArgs false
theorem extract_list (s : ByteArray) (a b : Nat) : (s.extract a b).data.toList = (s.data.toList.drop a).take (b - a) := by
  have e : (s.extract a b).data = s.data.extract a b := by simp
  rw [e, Array.toList_extract]
theorem drop_enc {s : ByteArray} {pos : Nat} {cs : List Nat} (h : charsD (s.data.toList.drop pos) = some cs) : s.data.toList.drop pos = encL cs := ((enc_chars _ _ _ (Nat.le_refl _) h).1).symm
/-- The characters between two places. -/
theorem extract_enc {s : ByteArray} {a b : Nat} {x y : List Nat} (ha : charsD (s.data.toList.drop a) = some (x ++ y)) (hb : charsD (s.data.toList.drop b) = some y) (hab : a ≤ b) (hbs : b ≤ s.size) : s.extract a b = encS x := by
  refine bytes_ext ?_
  rw [extract_list, encS_list, drop_enc ha, encL_append]
  have h1 := congrArg List.length (drop_enc ha)
  have h2 := congrArg List.length (drop_enc hb)
  rw [List.length_drop, encL_append, List.length_append] at h1
  rw [List.length_drop] at h2
  have hl : s.data.toList.length = s.size := Array.length_toList
  rw [hl] at h1 h2
  exact List.take_left' (by omega)
theorem spans_words (s : ByteArray) : ∀ (f pos : Nat) (cs : List Nat) (acc : List (Nat × Nat)) (st : Option Nat) (cur : List Nat), charsD (s.data.toList.drop pos) = some cs → s.size - pos ≤ f → pos ≤ s.size →
    ((st = none ∧ cur = []) ∨ ∃ a, st = some a ∧ cur ≠ [] ∧ a ≤ pos ∧ charsD (s.data.toList.drop a) = some (cur ++ cs)) →
    (closeSpans s (spansFromP isB s f pos st acc)).map (fun x => s.extract x.1 x.2) = acc.map (fun x => s.extract x.1 x.2) ++ (wordsA cur cs).map encS
  | f, pos, cs, acc, st, cur, hc, hf, hp, hst => by
    by_cases hlt : pos < s.size
    · obtain ⟨c, t, rfl, hd1, hd2, hd3, hd4, hcn⟩ := decode_step hlt hc
      cases f with
      | zero => omega
      | succ f =>
        unfold spansFromP
        rw [if_pos hlt, hd1]
        by_cases hb : isB c = true
        · rw [if_pos hb]
          rcases hst with ⟨rfl, rfl⟩ | ⟨a, rfl, hne, hap, hca⟩
          · simp only []
            rw [spans_words s f _ t acc none [] hd4 (by omega) hd3 (.inl ⟨rfl, rfl⟩), wordsA, if_pos hb, if_pos rfl]
          · simp only []
            rw [spans_words s f _ t _ none [] hd4 (by omega) hd3 (.inl ⟨rfl, rfl⟩), wordsA, if_pos hb, if_neg hne, List.map_append, List.map_cons, List.append_assoc]
            have := extract_enc hca hc hap (by omega)
            simp [this]
        · rw [if_neg hb]
          rcases hst with ⟨rfl, rfl⟩ | ⟨a, rfl, hne, hap, hca⟩
          · simp only []
            rw [spans_words s f _ t acc (some pos) [c] hd4 (by omega) hd3 (.inr ⟨pos, rfl, by simp, by omega, hc⟩), wordsA, if_neg hb, List.nil_append]
          · simp only []
            rw [spans_words s f _ t acc (some a) (cur ++ [c]) hd4 (by omega) hd3 (.inr ⟨a, rfl, by simp, by omega, by rw [List.append_assoc]; exact hca⟩), wordsA, if_neg hb]
    · have hcs : cs = [] := by
        have : s.data.toList.drop pos = [] := List.drop_eq_nil_of_le (by rw [Array.length_toList]; exact Nat.le_of_not_lt hlt)
        rw [this] at hc
        have := Option.some.inj hc
        exact this.symm
      subst hcs
      rw [spansFromP_end _ _ _ _ _ _ hlt]
      rcases hst with ⟨rfl, rfl⟩ | ⟨a, rfl, hne, hap, hca⟩
      · unfold closeSpans; simp [wordsA]
      · unfold closeSpans wordsA
        rw [if_neg hne]
        have hps : pos = s.size := by omega
        have := extract_enc hca hc hap hp
        rw [hps] at this
        simp [this]
/-- The pieces are the words. -/
theorem fields_words {s : ByteArray} {cs : List Nat} (h : charsD s.data.toList = some cs) : goFieldsP isB s = (wordsC cs).map encS := by
  have := spans_words s s.size 0 cs [] none [] (by rw [List.drop_zero]; exact h) (by omega) (by omega) (.inl ⟨rfl, rfl⟩)
  rw [List.map_nil, List.nil_append] at this
  exact this
end Go.Proofs.YtcfdalmllegefaaGreatDoor
/- The layings of Builder.WriteString and WriteByte, out of strings.Repeat's. -/
namespace Go.Proofs.YtcfdalmllegefaaGreatDoor
open Go.RowKit Go.Shelf
set_option maxRecDepth 100000
theorem laysWriteS : Lays.n166 Tryz.prog Tryz.laysRepeat_ren := {
  mixed := Tryz.laysRepeat.mixed
  f166 := Tryz.laysRepeat.f166
  f240 := Tryz.laysRepeat.f240
  f276 := Tryz.laysRepeat.f276
  t0 := Tryz.laysRepeat.t0
  a0 := Tryz.laysRepeat.a0
  z0 := Tryz.laysRepeat.z0
  v0 := Tryz.laysRepeat.v0
  t3 := Tryz.laysRepeat.t3
  a3 := Tryz.laysRepeat.a3
  z3 := Tryz.laysRepeat.z3
  v3 := Tryz.laysRepeat.v3
  t4 := Tryz.laysRepeat.t4
  a4 := Tryz.laysRepeat.a4
  z4 := Tryz.laysRepeat.z4
  v4 := Tryz.laysRepeat.v4
  t9 := Tryz.laysRepeat.t9
  a9 := Tryz.laysRepeat.a9
  z9 := Tryz.laysRepeat.z9
  v9 := Tryz.laysRepeat.v9
  t20 := Tryz.laysRepeat.t20
  a20 := Tryz.laysRepeat.a20
  z20 := Tryz.laysRepeat.z20
  v20 := Tryz.laysRepeat.v20
  t37 := Tryz.laysRepeat.t37
  a37 := Tryz.laysRepeat.a37
  z37 := Tryz.laysRepeat.z37
  v37 := Tryz.laysRepeat.v37
  t70 := Tryz.laysRepeat.t70
  a70 := Tryz.laysRepeat.a70
  z70 := Tryz.laysRepeat.z70
  v70 := Tryz.laysRepeat.v70
  t72 := Tryz.laysRepeat.t72
  a72 := Tryz.laysRepeat.a72
  z72 := Tryz.laysRepeat.z72
  v72 := Tryz.laysRepeat.v72
  t75 := Tryz.laysRepeat.t75
  a75 := Tryz.laysRepeat.a75
  z75 := Tryz.laysRepeat.z75
  v75 := Tryz.laysRepeat.v75
  t164 := Tryz.laysRepeat.t164
  a164 := Tryz.laysRepeat.a164
  z164 := Tryz.laysRepeat.z164
  v164 := Tryz.laysRepeat.v164 }
def wbRen : Ren := { Tryz.laysRepeat_ren with f := fun n => if n = 167 then 117 else Tryz.laysRepeat_ren.f n }
theorem laysWriteB : Lays.n167 Tryz.prog wbRen := {
  mixed := Tryz.laysRepeat.mixed
  f167 := Tryz.func117.trans (congrArg some (by kernel_rfl))
  f240 := Tryz.laysRepeat.f240.trans (congrArg some (by kernel_rfl))
  f276 := Tryz.laysRepeat.f276.trans (congrArg some (by kernel_rfl))
  t0 := Tryz.laysRepeat.t0
  a0 := Tryz.laysRepeat.a0
  z0 := Tryz.laysRepeat.z0
  v0 := Tryz.laysRepeat.v0
  t4 := Tryz.laysRepeat.t4
  a4 := Tryz.laysRepeat.a4
  z4 := Tryz.laysRepeat.z4
  v4 := Tryz.laysRepeat.v4
  t5 := Tryz.laysRepeat.t5
  a5 := Tryz.laysRepeat.a5
  z5 := Tryz.laysRepeat.z5
  v5 := Tryz.laysRepeat.v5
  t9 := Tryz.laysRepeat.t9
  a9 := Tryz.laysRepeat.a9
  z9 := Tryz.laysRepeat.z9
  v9 := Tryz.laysRepeat.v9
  t20 := Tryz.laysRepeat.t20
  a20 := Tryz.laysRepeat.a20
  z20 := Tryz.laysRepeat.z20
  v20 := Tryz.laysRepeat.v20
  t37 := Tryz.laysRepeat.t37
  a37 := Tryz.laysRepeat.a37
  z37 := Tryz.laysRepeat.z37
  v37 := Tryz.laysRepeat.v37
  t70 := Tryz.laysRepeat.t70
  a70 := Tryz.laysRepeat.a70
  z70 := Tryz.laysRepeat.z70
  v70 := Tryz.laysRepeat.v70
  t72 := Tryz.laysRepeat.t72
  a72 := Tryz.laysRepeat.a72
  z72 := Tryz.laysRepeat.z72
  v72 := Tryz.laysRepeat.v72
  t75 := Tryz.laysRepeat.t75
  a75 := Tryz.laysRepeat.a75
  z75 := Tryz.laysRepeat.z75
  v75 := Tryz.laysRepeat.v75
  t164 := Tryz.laysRepeat.t164
  a164 := Tryz.laysRepeat.a164
  z164 := Tryz.laysRepeat.z164
  v164 := Tryz.laysRepeat.v164 }
end Go.Proofs.YtcfdalmllegefaaGreatDoor
/- package column: IndentText; look and its callers without a buffer. -/
namespace Go.Proofs.YtcfdalmllegefaaGreatDoor
open Go.RowKit
set_option linter.unusedVariables false
set_option linter.unusedSimpArgs false
theorem repExtra : Builder.Extra Tryz.prog Tryz.laysRepeat_ren where
  sizeBuilder := by kernel_rfl
  liesBuilder := by kernel_rfl
  t5 := Tryz.underlying5
  a5 := Tryz.isAgg5
  z5 := Tryz.sizeOf5
  v5 := Tryz.zeroValue5
  infoByte := by kernel_rfl
  cellsByte := by kernel_rfl
  sizeByte := by kernel_rfl
  neB5 := by decide
/-- n copies of a byte. -/
def repB (c : UInt8) (n : Nat) : ByteArray := ⟨(List.replicate n c).toArray⟩
theorem repeatL_one (c : UInt8) : ∀ n, Lib.repeatL [c] n = List.replicate n c
  | 0 => rfl
  | n + 1 => by
    have := repeatL_one c n
    simp [Lib.repeatL, List.replicate_succ] at this ⊢
    first | exact this | simp [this]
theorem repeat_ok (c : UInt8) (n : Nat) (hn : n ≤ 1000000) (w : World) : Calls Tryz.prog 58 #[.string ⟨#[c]⟩, .int .i64 n] w fun e w' => e = .returned (.string (repB c n)) ∧ Below w.heap.size w w' := by
  have := Any.strings_Repeat Tryz.laysRepeat repExtra ⟨#[c]⟩ n w (by omega) (by show 1 * n ≤ _; omega)
  refine this.mono ?_
  rintro e w' ⟨he, hb⟩
  refine ⟨?_, hb⟩
  rw [he]
  unfold repB
  rw [← repeatL_one]
theorem repB_size (c : UInt8) (n : Nat) : (repB c n).size = n := by simp [repB, ByteArray.size]
/-- The tabs of an indentation. -/
def tabsN (col tab : Nat) (tabs : Bool) : Nat := if tabs then col / tab else 0
def indT (col tab : Nat) (tabs : Bool) : ByteArray := repB 9 (tabsN col tab tabs) ++ repB 32 (col - tabsN col tab tabs * tab)
section
variable {w w' : World}
theorem tabbed_no (tab : Int) (h : tab < 1 ∨ 64 < tab) (w : World) : Calls Tryz.prog 47 #[.int .i64 tab] w fun e w' => e = .returned (.bool false) ∧ w = w' := by
  by_cases h1 : tab < 1
  · have d1 : decide ((1 : Int) ≤ tab) = false := decide_eq_false (by omega)
    clear h h1
    go_enter Tryz.func47, Tryz.ntmps47
    go_wp2_with fail
    go_ret
    exact ⟨rfl, rfl⟩
  · have d1 : decide ((1 : Int) ≤ tab) = true := decide_eq_true (by omega)
    have d2 : decide (tab ≤ (64 : Int)) = false := decide_eq_false (by omega)
    clear h h1
    go_enter Tryz.func47, Tryz.ntmps47
    go_wp2_with fail
    go_ret
    exact ⟨rfl, rfl⟩
set_option maxHeartbeats 2000000 in
theorem itext_no (col tab : Int) (tabs : Bool) (h : col < 0 ∨ 1000 < col ∨ tab < 1 ∨ 64 < tab) (w : World) : Calls Tryz.prog 12 #[.int .i64 col, .int .i64 tab, .bool tabs] w fun e w' => e = .returned (.tuple #[.string ⟨#[]⟩, .int .i64 2]) ∧ w = w' := by
  by_cases h1 : col < 0
  · have d1 : decide (col < (0 : Int)) = true := decide_eq_true h1
    clear h h1
    go_enter Tryz.func12, Tryz.ntmps12
    go_wp2_with fail
    go_ret2
    exact ⟨rfl, rfl⟩
  · have d1 : decide (col < (0 : Int)) = false := decide_eq_false h1
    by_cases h2 : 1000 < col
    · have d2 : decide ((1000 : Int) < col) = true := decide_eq_true h2
      clear h h1 h2
      go_enter Tryz.func12, Tryz.ntmps12
      go_wp2_with fail
      go_ret2
      exact ⟨rfl, rfl⟩
    · have d2 : decide ((1000 : Int) < col) = false := decide_eq_false h2
      have HT := Lib.hid (tabbed_no tab (by omega) w)
      clear h h1 h2
      go_enter Tryz.func12, Tryz.ntmps12
      go_wp2_with fail
      refine HT.out.mono ?_
      rintro e w' ⟨rfl, rfl⟩
      go_wp2_with fail
      go_ret2
      exact ⟨rfl, rfl⟩
set_option maxHeartbeats 2000000 in
theorem itext_ok (col tab : Nat) (tabs : Bool) (h1 : col ≤ 1000) (h2 : 1 ≤ tab) (h3 : tab ≤ 64) (w : World) : Calls Tryz.prog 12 #[.int .i64 col, .int .i64 tab, .bool tabs] w fun e w' => e = .returned (.tuple #[.string (indT col tab tabs), .int .i64 0]) ∧ Below w.heap.size w w' := by
  have d1 : decide ((col : Int) < (0 : Int)) = false := decide_eq_false (by omega)
  have d2 : decide ((1000 : Int) < (col : Int)) = false := decide_eq_false (by omega)
  have HT := Lib.hid (tabbed_ok tab h2 h3 w)
  have hn : tabsN col tab tabs * tab ≤ col := by
    unfold tabsN
    split
    · exact Nat.div_mul_le_self _ _
    · omega
  have hn2 : tabsN col tab tabs ≤ 1000 := by
    unfold tabsN
    split
    · exact Nat.le_trans (Nat.div_le_self _ _) h1
    · omega
  have hq : tabs = true → (col : Int).tdiv tab = ((tabsN col tab tabs : Nat) : Int) := fun h => by unfold tabsN; rw [if_pos h]; simp
  have hq2 : tabs = true → (col : Int) / tab = ((tabsN col tab tabs : Nat) : Int) := fun h => by unfold tabsN; rw [if_pos h]; simp
  have hz : tabs = false → tabsN col tab tabs = 0 := fun h => by unfold tabsN; rw [if_neg (by simp [h])]
  unfold indT
  obtain ⟨n, hnn⟩ : ∃ n, n = tabsN col tab tabs := ⟨_, rfl⟩
  rw [← hnn] at hn hn2 hq hq2 hz ⊢
  obtain ⟨m, hm⟩ : ∃ m, m = n * tab := ⟨_, rfl⟩
  rw [← hm] at hn ⊢
  have hmm : (n : Int) * (tab : Int) = (m : Int) := by rw [hm]; simp
  obtain ⟨k, hk⟩ : ∃ k, k = col - m := ⟨_, rfl⟩
  rw [← hk]
  have s1 : IntKind.i64.wrap ((n : Int) * (tab : Int)) = (m : Int) := by rw [hmm]; exact IntWalk.i64_in _ (by omega)
  have s2 : IntKind.i64.wrap ((col : Int) - (m : Int)) = (k : Int) := by rw [IntWalk.i64_in _ (by omega)]; omega
  have R1 := Lib.hid (fun w => repeat_ok 9 n (by omega) w)
  have R2 := Lib.hid (fun w => repeat_ok 32 k (by omega) w)
  have hs1 := repB_size 9 n
  have hs2 := repB_size 32 k
  have hne : ((tab : Int) == 0) = false := by simp; omega
  have hne2 : (tab = 0) = False := eq_false (by omega)
  have HS := Lib.hid (⟨hs1, hs2, hn2, h1, hk, hm⟩ : _ ∧ _ ∧ _ ∧ _ ∧ _ ∧ _)
  cases tabs with
  | true =>
    have q1 := hq rfl
    have q2 := hq2 rfl
    have s3 : IntKind.i64.wrap ((n : Nat) : Int) = (n : Int) := IntWalk.i64_in _ (by omega)
    clear hq hq2 hz hmm hn hn2 hs1 hs2 hk hm hnn h1 h2 h3
    go_enter Tryz.func12, Tryz.ntmps12
    go_wp2_with fail
    refine HT.out.mono ?_
    rintro e w' ⟨rfl, rfl⟩
    go_wp2_with fail
    refine (R1.out w).mono ?_
    rintro e w1 ⟨rfl, hb1⟩
    have B1 := Lib.hid hb1
    clear hb1
    go_wp2_with fail
    refine (R2.out w1).mono ?_
    rintro e w2 ⟨rfl, hb2⟩
    have B2 := Lib.hid (up2 B1.out hb2)
    clear hb2
    have hadd : (9223372036854775807 < (repB 9 n).size + (repB 32 k).size) = False := eq_false (by have := HS.out; omega)
    go_wp2_with fail
    go_ret2
    exact ⟨rfl, B2.out⟩
  | false =>
    obtain rfl := hz rfl
    have hm0 : m = 0 := by rw [hm]; simp
    have hk0 : k = col := by omega
    subst hk0
    have R1' := Lib.hid (fun w => (R1.out w : Calls Tryz.prog 58 #[.string ⟨#[9]⟩, .int .i64 0] w _))
    have R2' := Lib.hid (fun w => (R2.out w : Calls Tryz.prog 58 #[.string ⟨#[32]⟩, .int .i64 k] w _))
    have s3 : IntKind.i64.wrap (k : Int) = (k : Int) := IntWalk.i64_in _ (by omega)
    clear hq hq2 hz hmm hn hn2 hs1 hs2 hk hm hnn h1 h2 h3 hm0 s1 s2 R1 R2
    go_enter Tryz.func12, Tryz.ntmps12
    go_wp2_with fail
    refine HT.out.mono ?_
    rintro e w' ⟨rfl, rfl⟩
    go_wp2_with fail
    refine (R1'.out w).mono ?_
    rintro e w1 ⟨rfl, hb1⟩
    have B1 := Lib.hid hb1
    clear hb1
    go_wp2_with fail
    refine (R2'.out w1).mono ?_
    rintro e w2 ⟨rfl, hb2⟩
    have B2 := Lib.hid (up2 B1.out hb2)
    clear hb2
    have hadd : (9223372036854775807 < (repB 9 0).size + (repB 32 k).size) = False := eq_false (by have := HS.out; omega)
    go_wp2_with fail
    go_ret2
    exact ⟨rfl, B2.out⟩
/-- Some indentation, or none. -/
theorem itext_any (col tab : Int) (tabs : Bool) (w : World) : Calls Tryz.prog 12 #[.int .i64 col, .int .i64 tab, .bool tabs] w fun e w' => ∃ s x, e = .returned (.tuple #[.string s, .int .i64 x]) ∧ Below w.heap.size w w' := by
  by_cases h : col < 0 ∨ 1000 < col ∨ tab < 1 ∨ 64 < tab
  · exact (itext_no col tab tabs h w).mono fun e w' ⟨he, hw⟩ => ⟨_, _, he, hw ▸ Below.refl _ _⟩
  · obtain ⟨c, rfl⟩ : ∃ c : Nat, col = c := ⟨col.toNat, by omega⟩
    obtain ⟨t, rfl⟩ : ∃ t : Nat, tab = t := ⟨tab.toNat, by omega⟩
    exact (itext_ok c t tabs (by omega) (by omega) (by omega) w).mono fun e w' ⟨he, hw⟩ => ⟨_, _, he, hw⟩
end
end Go.Proofs.YtcfdalmllegefaaGreatDoor
/- A strings.Builder that a call has made. -/
namespace Go.Proofs.YtcfdalmllegefaaGreatDoor
open Go.RowKit Go.Lib
set_option linter.unusedVariables false
set_option linter.unusedSimpArgs false
theorem wbExtra : Builder.Extra Tryz.prog wbRen where
  sizeBuilder := by kernel_rfl
  liesBuilder := by kernel_rfl
  t5 := Tryz.underlying5
  a5 := Tryz.isAgg5
  z5 := Tryz.sizeOf5
  v5 := Tryz.zeroValue5
  infoByte := by kernel_rfl
  cellsByte := by kernel_rfl
  sizeByte := by kernel_rfl
  neB5 := by decide
theorem bsExtra : Builder.Extra Tryz.prog Tryz.laysBString_ren where
  sizeBuilder := by kernel_rfl
  liesBuilder := by kernel_rfl
  t5 := Tryz.underlying5
  a5 := Tryz.isAgg5
  z5 := Tryz.sizeOf5
  v5 := Tryz.zeroValue5
  infoByte := by kernel_rfl
  cellsByte := by kernel_rfl
  sizeByte := by kernel_rfl
  neB5 := by decide
/-- The builder at block b holds the bytes l. -/
def Bd (B b : Nat) (l : List UInt8) (w : World) : Prop := IsBuilderF 151 5 B b (byteCells l) w
theorem byteCells_app (a b : List UInt8) : byteCells a ++ byteCells b = byteCells (a ++ b) := by unfold byteCells; rw [List.map_append]
section
variable {w w' : World} {B b : Nat} {l : List UInt8}
theorem Bd.made (w : World) : Bd w.heap.size w.heap.size [] (w.alloc (.cells #[.pointer none, .slice none 0 0] 151)) :=
  IsBuilderF.of (.inl ⟨Nat.le_refl _, .slice none 0 0, (MapKept.heap_alloc w _).1, (ROwn.nil (enc := fun x : Value => [x]) _ _), by simp [Value.ownBlock]⟩)
theorem Bd.up (h : Bd B b l w) (hb : Below w.heap.size w w') : Bd B b l w' := by
  have hg : w.grownBy w' none := ⟨hb.os, hb.tape, hb.output, hb.size, fun i hi _ => hb.block i hi⟩
  have hn : ∀ v : Value, v.ownBlock = none ∨ v.ownBlock ≠ none := fun v => by cases v.ownBlock <;> simp
  rcases h with h | h
  · have hl := h.lt
    obtain ⟨h1, v, h2, h3, h4⟩ := h
    exact .inl ⟨h1, v, (hb.block _ hl).trans h2, h3.kept hg (hn v), h4⟩
  · have hl := h.lt
    obtain ⟨h1, v, h2, h3, h4⟩ := h
    exact .inr ⟨h1, v, (hb.block _ hl).trans h2, h3.kept hg (hn v), h4⟩
/-- What a call on a builder leaves as it was. -/
abbrev Kept (b : Nat) (w w' : World) : Prop := OthersKept 5 (some b) w w'
theorem bwrite (h : Bd B b l w) (s : ByteArray) (hlen : l.length + s.size ≤ 1000000000) (hB : B ≤ w.heap.size) :
    Calls Tryz.prog 116 #[.pointer (some ⟨b, 0, none⟩), .string s] w fun e w' => (∃ v, e = .returned v) ∧ Bd B b (l ++ s.data.toList) w' ∧ Below B w w' ∧ Kept b w w' := by
  have q := Any.Builder_WriteString_k laysWriteS repExtra B b (byteCells l) s w h (by unfold byteCells; rw [List.length_map]; omega) hB
  refine q.mono ?_
  rintro e w' ⟨he, h2, h3, h4⟩
  refine ⟨⟨_, he⟩, .inr ?_, h3, h4⟩
  rw [← byteCells_app]; exact h2
theorem bwrite1 (h : Bd B b l w) (c : UInt8) (hlen : l.length + 1 ≤ 1000000000) (hB : B ≤ w.heap.size) :
    Calls Tryz.prog 117 #[.pointer (some ⟨b, 0, none⟩), .int .u8 c.toNat] w fun e w' => (∃ v, e = .returned v) ∧ Bd B b (l ++ [c]) w' ∧ Below B w w' ∧ Kept b w w' := by
  have q := Any.Builder_WriteByte_k laysWriteB wbExtra B b (byteCells l) c.toNat w h (by unfold byteCells; rw [List.length_map]; omega) hB
  refine q.mono ?_
  rintro e w' ⟨he, h2, h3, h4⟩
  refine ⟨⟨_, he⟩, .inr ?_, h3, h4⟩
  rw [← byteCells_app]; exact h2
theorem bstring (h : Bd B b l w) (hB : B ≤ w.heap.size) :
    Calls Tryz.prog 119 #[.pointer (some ⟨b, 0, none⟩)] w fun e w' => e = .returned (.string ⟨l.toArray⟩) ∧ Below B w w' := by
  have q := Any.Builder_String_any_k Tryz.laysBString bsExtra B b l w h hB
  exact q.mono fun e w' ⟨he, h2⟩ => ⟨he, h2.2.1⟩
end
end Go.Proofs.YtcfdalmllegefaaGreatDoor
/- package column: the view's column and seek. -/
namespace Go.Proofs.YtcfdalmllegefaaGreatDoor
open Go.RowKit
set_option linter.unusedVariables false
set_option linter.unusedSimpArgs false
/-- A view that lies in block v. -/
structure VwI (w : World) (v b lo hi tab : Nat) : Prop where
  c0 : w.cell? ⟨v, 0, none⟩ = some (.pointer (some ⟨b, 0, none⟩))
  c1 : w.cell? ⟨v, 1, none⟩ = some (.int .i64 lo)
  c2 : w.cell? ⟨v, 2, none⟩ = some (.int .i64 hi)
  c3 : w.cell? ⟨v, 3, none⟩ = some (.int .i64 tab)
section
variable {w w' : World} {v b pt lo hi tab : Nat} {cs : List Nat}
theorem VwI.up (h : VwI w v b lo hi tab) (hb : Below w.heap.size w w') : VwI w' v b lo hi tab :=
  have e := hb.block v (lt_of_cell h.c0)
  ⟨(World.cell?_of_block (w := w) (a := ⟨v, 0, none⟩) e).trans h.c0, (World.cell?_of_block (w := w) (a := ⟨v, 1, none⟩) e).trans h.c1, (World.cell?_of_block (w := w) (a := ⟨v, 2, none⟩) e).trans h.c2, (World.cell?_of_block (w := w) (a := ⟨v, 3, none⟩) e).trans h.c3⟩
theorem VwI.made (w : World) (b lo hi tab : Nat) {T : TypeId} : VwI (w.alloc (.cells #[.pointer (some ⟨b, 0, none⟩), .int .i64 lo, .int .i64 hi, .int .i64 tab] T)) w.heap.size b lo hi tab := by
  have e := (MapKept.heap_alloc w (.cells #[.pointer (some ⟨b, 0, none⟩), .int .i64 lo, .int .i64 hi, .int .i64 tab] T)).1
  exact ⟨by simp only [World.cell?, e]; rfl, by simp only [World.cell?, e]; rfl, by simp only [World.cell?, e]; rfl, by simp only [World.cell?, e]; rfl⟩
theorem chr_isN (h : BufR w b cs pt lo hi) (k : Nat) (h1 : 1 ≤ k) (hk : k ≤ cs.length) : isN (chr cs k) := by
  obtain ⟨t, g, h⟩ := h
  obtain ⟨B, cap, st, en, hg⟩ := h.gap
  unfold chr
  rw [List.getD_eq_getElem?_getD, List.getElem?_eq_getElem (show k - 1 < cs.length by omega)]
  exact hg.hn _ (List.getElem_mem _)
theorem colN_small (ht : tab ≤ 64) (b i : Nat) (h : b ≤ i) (hi : i ≤ 1000001) : colN widN cs tab b i ≤ 100000000 := by
  have := colN_cap (cs := cs) (wid := widN) widN_le ht b i h
  omega
set_option maxHeartbeats 2000000 in
theorem vcolumn (h : BufR w b cs pt lo hi) (tab k : Nat) (ht1 : 1 ≤ tab) (ht2 : tab ≤ 64) (h2 : lo ≤ k) (h3 : k ≤ hi) :
    Calls Tryz.prog 57 #[vwV b lo hi tab, .int .i64 k] w fun e w' => e = .returned (.int .i64 (colN widN cs tab (lineB cs lo k) k)) ∧ Below w.heap.size w w' := by
  have hl := h.len
  have HH := Lib.hid h
  have hB1 : lo ≤ lineB cs lo k := lineB_ge k
  have hB2 : lineB cs lo k ≤ k := lineB_le k h2
  obtain ⟨R, hR⟩ : ∃ R, R = colN widN cs tab (lineB cs lo k) k := ⟨_, rfl⟩
  rw [← hR]
  have HR := Lib.hid hR
  clear hR h
  go_enter Tryz.func57, Tryz.ntmps57
  go_wp2_with fail
  have HB0 := below1 w (.cells #[.pointer (some ⟨b, 0, none⟩), .int .i64 lo, .int .i64 hi, .int .i64 tab] 71)
  have hv := VwI.made w b lo hi tab (T := 71)
  generalize w.alloc (.cells #[.pointer (some ⟨b, 0, none⟩), .int .i64 lo, .int .i64 hi, .int .i64 tab] 71) = W at *
  refine (vbegin (HH.out.up HB0) tab k hl.2.1 h2 h3).mono ?_
  rintro e w1 ⟨rfl, hb1⟩
  have HV := Lib.hid (hv.up hb1)
  have HB1 := Lib.hid (up2 HB0 hb1)
  clear hv hb1 HB0
  generalize lineB cs lo k = B at *
  go_wp2_with fail
  go_loopw [5, 6, 7, 8] (fun va vb vc vd wr => ∃ i : Nat, B ≤ i ∧ i ≤ k ∧ va = .int .i64 (colN widN cs tab B i) ∧ vb = .int .i64 i ∧ Below w.heap.size w wr ∧ Below w1.heap.size w1 wr) (fun _ vb _ _ _ => k + 1 - (intOf vb).toNat)
  case atStart => exact ⟨B, Nat.le_refl _, hB2, by rw [colN_self]; rfl, rfl, HB1.out, Below.refl _ w1⟩
  case round =>
    obtain ⟨i, i1, i2, rfl, rfl, hbw, hb1⟩ := hrel
    have HBW := Lib.hid hbw
    have HB2 := Lib.hid hb1
    have HVr := Lib.hid (HV.out.up hb1)
    clear hbw hb1
    by_cases hlt : i < k
    · have d1 : decide ((i : Int) < k) = true := decide_eq_true (by omega)
      have HC := Lib.hid (bchar (HH.out.up HBW.out) i (by omega) (by omega))
      have HN := Lib.hid (chr_isN HH.out i (by omega) (by omega))
      have v0 := HVr.out.c0
      have v3 := fun w' (hb : Below wr.heap.size wr w') => (HVr.out.up hb).c3
      have HV3 := Lib.hid v3
      clear v3
      have hsm := colN_small (cs := cs) ht2 B i i1 (by omega)
      have hsu : colN widN cs tab B (i + 1) = _ := colN_succ B i i1
      have HSU := Lib.hid hsu
      clear hsu
      generalize colN widN cs tab B i = C at *
      generalize chr cs i = c at *
      have s1 : IntKind.i64.wrap ((i : Int) + 1) = ((i + 1 : Nat) : Int) := by rw [IntWalk.i64_in _ (by omega)]; omega
      go_wp2_with fail
      refine HC.out.mono ?_
      rintro e w2 ⟨rfl, hb2⟩
      have v3 := HV3.out w2 hb2
      have HB3 := Lib.hid hb2
      clear hb2
      go_wp2_with fail
      refine (after_ok C c tab HN.out ht1 ht2 hsm w2).mono ?_
      rintro e w3 ⟨rfl, hb3⟩
      have HB4 := Lib.hid hb3
      clear hb3 v3
      go_wp2_with fail
      go_roundw
      case rel => exact ⟨i + 1, by omega, by omega, by rw [HSU.out], by first | rfl | go_num, up2 HBW.out (up2 HB3.out HB4.out), up2 HB2.out (up2 HB3.out HB4.out)⟩
      case measure => simp [intOf]; omega
    · have d1 : decide ((i : Int) < k) = false := decide_eq_false (by omega)
      have hik : i = k := by omega
      go_wp2_with fail
      go_ret
      exact ⟨by rw [HR.out, hik]; rfl, HBW.out⟩
set_option maxHeartbeats 2000000 in
theorem vseek (h : BufR w b cs pt lo hi) (tab k col : Nat) (ht1 : 1 ≤ tab) (ht2 : tab ≤ 64) (h2 : lo ≤ k) (h3 : k ≤ hi) :
    Calls Tryz.prog 70 #[vwV b lo hi tab, .int .i64 k, .int .i64 col] w fun e w' => e = .returned (.tuple #[.int .i64 (seekN widN cs tab (lineB cs lo k) (lineE cs hi k) col : Nat), .int .i64 (colN widN cs tab (lineB cs lo k) (seekN widN cs tab (lineB cs lo k) (lineE cs hi k) col) : Nat)]) ∧ Below w.heap.size w w' := by
  have hl := h.len
  have HH := Lib.hid h
  have hB1 : lo ≤ lineB cs lo k := lineB_ge k
  have hB2 : lineB cs lo k ≤ k := lineB_le k h2
  have hE1 : k ≤ lineE cs hi k := lineE_ge k
  have hE2 : lineE cs hi k ≤ hi := lineE_le k h3
  obtain ⟨R, hR⟩ : ∃ R, R = seekN widN cs tab (lineB cs lo k) (lineE cs hi k) col := ⟨_, rfl⟩
  rw [← hR]
  have HR := Lib.hid hR
  obtain ⟨D, hD⟩ : ∃ D, D = colN widN cs tab (lineB cs lo k) R := ⟨_, rfl⟩
  rw [← hD]
  have HD := Lib.hid hD
  clear hR hD h
  go_enter Tryz.func70, Tryz.ntmps70
  go_wp2_with fail
  have HB0 := below1 w (.cells #[.pointer (some ⟨b, 0, none⟩), .int .i64 lo, .int .i64 hi, .int .i64 tab] 71)
  have hv := VwI.made w b lo hi tab (T := 71)
  generalize w.alloc (.cells #[.pointer (some ⟨b, 0, none⟩), .int .i64 lo, .int .i64 hi, .int .i64 tab] 71) = W at *
  have v0 := fun (x : UpW W.heap.size W) => (hv.up x.up).c0
  have v1 := fun (x : UpW W.heap.size W) => (hv.up x.up).c1
  have v2 := fun (x : UpW W.heap.size W) => (hv.up x.up).c2
  have v3 := fun (x : UpW W.heap.size W) => (hv.up x.up).c3
  refine wp_region_up W.heap.size (by kernel_rfl) (by kernel_rfl) ?_
  repeat (go_big_quiet_step (first | exact Calls.up ‹_› (Nat.le_refl _) (vbegin ((HH.out.up HB0).up (UpW.up ‹_›)) tab k hl.2.1 h2 h3) | exact Calls.up ‹_› (Nat.le_refl _) (vend ((HH.out.up HB0).up (UpW.up ‹_›)) tab k (by omega) h3)))
  refine wpQuiet_nil ?_
  rintro ⟨w1, hb1⟩
  dsimp only
  have HV := Lib.hid (hv.up hb1)
  have HB1 := Lib.hid (up2 HB0 hb1)
  clear hv v0 v1 v2 v3 HB0 hb1
  generalize lineB cs lo k = B at *
  generalize lineE cs hi k = E at *
  go_wp2_with fail
  go_loopw [8, 10, 11, 12] (fun va vb vc vd wr => ∃ i : Nat, B ≤ i ∧ i ≤ E ∧ (∀ j, B ≤ j → j < i → colN widN cs tab B j < col) ∧ va = .int .i64 i ∧ vb = .int .i64 (colN widN cs tab B i) ∧ Below w.heap.size w wr ∧ Below w1.heap.size w1 wr) (fun va _ _ _ _ => E + 1 - (intOf va).toNat)
  case atStart => exact ⟨B, Nat.le_refl _, by omega, fun j h h2 => by omega, rfl, by rw [colN_self]; rfl, HB1.out, Below.refl _ w1⟩
  case round =>
    obtain ⟨i, i1, i2, i3, rfl, rfl, hbw, hb1⟩ := hrel
    have HBW := Lib.hid hbw
    have HI3 := Lib.hid i3
    have HB2 := Lib.hid hb1
    have HVr := Lib.hid (HV.out.up hb1)
    have hsm := colN_small (cs := cs) ht2 B i i1 (by omega)
    have hsu : colN widN cs tab B (i + 1) = _ := colN_succ B i i1
    have HSU := Lib.hid hsu
    clear hbw hb1 i3 hsu
    obtain ⟨C, hC⟩ : ∃ C, C = colN widN cs tab B i := ⟨_, rfl⟩
    rw [← hC] at hsm HSU
    rw [← hC]
    have HCC := Lib.hid hC
    clear hC
    by_cases hcol : C < col
    · have d0 : decide ((C : Int) < col) = true := decide_eq_true (by omega)
      by_cases hlt : i < E
      · have d1 : decide ((i : Int) < E) = true := decide_eq_true (by omega)
        have HC := Lib.hid (bchar (HH.out.up HBW.out) i (by omega) (by omega))
        have HN := Lib.hid (chr_isN HH.out i (by omega) (by omega))
        have v0 := HVr.out.c0
        have v3 := fun w' (hb : Below wr.heap.size wr w') => (HVr.out.up hb).c3
        have HV3 := Lib.hid v3
        clear v3
        generalize chr cs i = c at *
        have s1 : IntKind.i64.wrap ((i : Int) + 1) = ((i + 1 : Nat) : Int) := by rw [IntWalk.i64_in _ (by omega)]; omega
        go_wp2_with fail
        refine HC.out.mono ?_
        rintro e w2 ⟨rfl, hb2⟩
        have v3 := HV3.out w2 hb2
        have HB3 := Lib.hid hb2
        clear hb2
        go_wp2_with fail
        refine (after_ok C c tab HN.out ht1 ht2 hsm w2).mono ?_
        rintro e w3 ⟨rfl, hb3⟩
        have HB4 := Lib.hid hb3
        clear hb3 v3
        go_wp2_with fail
        go_roundw
        case rel =>
          refine ⟨i + 1, by omega, by omega, fun j hj hj2 => ?_, by first | rfl | go_num, by rw [HSU.out], up2 HBW.out (up2 HB3.out HB4.out), up2 HB2.out (up2 HB3.out HB4.out)⟩
          by_cases e : j = i
          · rw [e, ← HCC.out]; exact hcol
          · exact HI3.out j hj (by omega)
        case measure => simp [intOf]; omega
      · have d1 : decide ((i : Int) < E) = false := decide_eq_false (by omega)
        obtain rfl : i = R := (HR.out.trans (seekN_eq B E col i (by omega) i1 i2 HI3.out (.inl (by omega)))).symm
        go_wp2_with fail
        go_ret2
        exact ⟨by rw [HD.out, HCC.out]; rfl, HBW.out⟩
    · have d0 : decide ((C : Int) < col) = false := decide_eq_false (by omega)
      obtain rfl : i = R := (HR.out.trans (seekN_eq B E col i (by omega) i1 i2 HI3.out (.inr (by rw [← HCC.out]; omega)))).symm
      go_wp2_with fail
      go_ret2
      exact ⟨by rw [HD.out, HCC.out]; rfl, HBW.out⟩
end
end Go.Proofs.YtcfdalmllegefaaGreatDoor
/- package column: the view's lines. -/
namespace Go.Proofs.YtcfdalmllegefaaGreatDoor
open Go.RowKit
set_option linter.unusedVariables false
set_option linter.unusedSimpArgs false
/-- Where moving n lines forward leads, and how many lines there were not. -/
def linesF (cs : List Nat) (lo hi n k : Nat) : Nat × Nat := if (fwdN cs hi n k).2 = 0 then (lineB cs lo (fwdN cs hi n k).1, 0) else fwdN cs hi n k
section
variable {w w' : World} {v b pt lo hi tab : Nat} {cs : List Nat}
set_option maxHeartbeats 2000000 in
theorem vlines_fwd (h : BufR w b cs pt lo hi) (tab k n : Nat) (hn : n ≤ 1000000) (h2 : lo ≤ k) (h3 : k ≤ hi) :
    Calls Tryz.prog 45 #[vwV b lo hi tab, .int .i64 k, .int .i64 n] w fun e w' => e = .returned (.tuple #[.int .i64 (linesF cs lo hi n k).1, .int .i64 (linesF cs lo hi n k).2]) ∧ Below w.heap.size w w' := by
  have hl := h.len
  have HH := Lib.hid h
  obtain ⟨R, hR⟩ : ∃ R, R = linesF cs lo hi n k := ⟨_, rfl⟩
  rw [← hR]
  have HR := Lib.hid hR
  clear hR h
  go_enter Tryz.func45, Tryz.ntmps45
  go_wp2_with fail
  have HB0 := Lib.hid (below1 w (.cells #[.pointer (some ⟨b, 0, none⟩), .int .i64 lo, .int .i64 hi, .int .i64 tab] 71))
  have hv := Lib.hid (VwI.made w b lo hi tab (T := 71))
  generalize w.alloc (.cells #[.pointer (some ⟨b, 0, none⟩), .int .i64 lo, .int .i64 hi, .int .i64 tab] 71) = W at *
  go_loopw [1, 2] (fun va vb wr => ∃ i m : Nat, lo ≤ i ∧ i ≤ hi ∧ m ≤ n ∧ va = .int .i64 i ∧ vb = .int .i64 m ∧ fwdN cs hi m i = fwdN cs hi n k ∧ Below W.heap.size W wr) (fun _ vb _ => (intOf vb).toNat)
  case atStart => exact ⟨k, n, h2, h3, Nat.le_refl _, rfl, rfl, rfl, Below.refl _ W⟩
  case round =>
    obtain ⟨i, m, i1, i2, i3, rfl, rfl, hf, hbw⟩ := hrel
    have HF := Lib.hid hf
    have HBW := Lib.hid hbw
    have HVr := Lib.hid (hv.out.up hbw)
    have HHr := Lib.hid ((HH.out.up HB0.out).up hbw)
    clear hf hbw
    cases m with
    | succ q =>
      have d0 : decide ((0 : Int) < ((q + 1 : Nat) : Int)) = true := decide_eq_true (by omega)
      have s1 : IntKind.i64.wrap (((q + 1 : Nat) : Int) - 1) = (q : Int) := by rw [IntWalk.i64_in _ (by omega)]; omega
      have v0 := HVr.out.c0
      have v1 := HVr.out.c1
      have v2 := HVr.out.c2
      have v3 := HVr.out.c3
      have HE := Lib.hid (vend HHr.out tab i (by omega) i2)
      have hE1 : i ≤ lineE cs hi i := lineE_ge i
      have hE2 : lineE cs hi i ≤ hi := lineE_le i i2
      have hf : (if lineE cs hi i = hi then (hi, q + 1) else fwdN cs hi q (lineE cs hi i + 1)) = fwdN cs hi n k := HF.out
      have HF2 := Lib.hid hf
      clear hf HF
      generalize lineE cs hi i = E at *
      go_wp2_with fail
      refine HE.out.mono ?_
      rintro e w1 ⟨rfl, hb1⟩
      have v2' := (HVr.out.up hb1).c2
      have HB1 := Lib.hid hb1
      clear hb1 v0 v1 v2 v3
      by_cases he : E = hi
      · have d1 : ((E : Int) == (hi : Int)) = true := by simp [he]
        have hff := HF2.out
        rw [if_pos he] at hff
        have hRR := HR.out
        unfold linesF at hRR
        have e0 : fwdN cs hi n k = (hi, q + 1) := hff.symm
        rw [e0, if_neg (by simp)] at hRR
        subst hRR
        clear hff HF2 HR
        go_wp2_with fail
        go_ret2
        subst he
        exact ⟨by first | rfl | go_num, up2 HB0.out (up2 HBW.out HB1.out)⟩
      · have d1 : ((E : Int) == (hi : Int)) = false := by simp; omega
        have hff := HF2.out
        rw [if_neg he] at hff
        have HF3 := Lib.hid hff
        have s2 : IntKind.i64.wrap ((E : Int) + 1) = ((E + 1 : Nat) : Int) := by rw [IntWalk.i64_in _ (by omega)]; omega
        clear hff HF2
        go_wp2_with fail
        go_roundw
        case rel => exact ⟨E + 1, q, by omega, by omega, by omega, by first | rfl | go_num, by first | rfl | go_num, HF3.out, up2 HBW.out HB1.out⟩
        case measure => simp [intOf]
    | zero =>
      have d0 : decide ((0 : Int) < ((0 : Nat) : Int)) = false := decide_eq_false (by omega)
      have hRR := HR.out
      unfold linesF at hRR
      have e0 : fwdN cs hi n k = (i, 0) := HF.out.symm
      rw [e0, if_pos rfl] at hRR
      have HRR := Lib.hid hRR
      clear HR HF e0 hRR
      have v0 := HVr.out.c0
      have v1 := HVr.out.c1
      have v2 := HVr.out.c2
      have v3 := HVr.out.c3
      have z0 : ((0 : Nat) : Int) = 0 := rfl
      rw [z0] at d0
      by_cases hgt : lo < i
      · have d1 : decide ((lo : Int) < (i : Int)) = true := decide_eq_true (by omega)
        have s3 : IntKind.i64.wrap ((i : Int) - 1) = ((i - 1 : Nat) : Int) := by rw [IntWalk.i64_in _ (by omega)]; omega
        have HC := Lib.hid (bchar HHr.out (i - 1) (by omega) (by omega))
        obtain ⟨c, hc⟩ : ∃ c, c = chr cs (i - 1) := ⟨_, rfl⟩
        rw [← hc] at HC
        by_cases h10 : c = 10
        · have d2 : ((c : Int) == (10 : Int)) = true := by simp [h10]
          have e2 : lineB cs lo i = i := lineB_eq i i (by omega) (Nat.le_refl _) (fun j h h2 => by omega) (.inr ⟨hgt, by rw [← hc]; exact h10⟩)
          have E2 := Lib.hid e2
          clear hc e2
          generalize i - 1 = p at *
          go_wp2_with fail
          refine HC.out.mono ?_
          rintro e w1 ⟨rfl, hb1⟩
          have HB1 := Lib.hid hb1
          clear hb1
          go_wp2_with fail
          go_ret2
          exact ⟨by rw [HRR.out, E2.out]; rfl, up2 HB0.out (up2 HBW.out HB1.out)⟩
        · have d2 : ((c : Int) == (10 : Int)) = false := by simp; omega
          clear hc
          generalize i - 1 = p at *
          go_wp2_with fail
          refine HC.out.mono ?_
          rintro e w1 ⟨rfl, hb1⟩
          have HB1 := Lib.hid hb1
          have v0' := (HVr.out.up hb1).c0
          have v1' := (HVr.out.up hb1).c1
          have v2' := (HVr.out.up hb1).c2
          have v3' := (HVr.out.up hb1).c3
          clear hb1 v0 v1 v2 v3
          go_wp2_with fail
          refine (vbegin (HHr.out.up HB1.out) tab i hl.2.1 i1 i2).mono ?_
          rintro e w2 ⟨rfl, hb2⟩
          have HB2 := Lib.hid hb2
          clear hb2 v0' v1' v2' v3'
          generalize lineB cs lo i = B at *
          go_wp2_with fail
          go_loopw [1, 2] (fun va vb wr => va = .int .i64 B ∧ vb = .int .i64 0 ∧ w2 = wr) (fun _ _ _ => 0)
          case atStart => exact ⟨rfl, rfl, rfl⟩
          case round =>
            obtain ⟨rfl, rfl, rfl⟩ := hrel
            go_wp2_with fail
            go_ret2
            exact ⟨by rw [HRR.out]; first | rfl | go_num, up2 HB0.out (up2 HBW.out (up2 HB1.out HB2.out))⟩
      · have d1 : decide ((lo : Int) < (i : Int)) = false := decide_eq_false (by omega)
        go_wp2_with fail
        refine (vbegin HHr.out tab i hl.2.1 i1 i2).mono ?_
        rintro e w2 ⟨rfl, hb2⟩
        have HB2 := Lib.hid hb2
        clear hb2 v0 v1 v2 v3
        generalize lineB cs lo i = B at *
        go_wp2_with fail
        go_loopw [1, 2] (fun va vb wr => va = .int .i64 B ∧ vb = .int .i64 0 ∧ w2 = wr) (fun _ _ _ => 0)
        case atStart => exact ⟨rfl, rfl, rfl⟩
        case round =>
          obtain ⟨rfl, rfl, rfl⟩ := hrel
          go_wp2_with fail
          go_ret2
          exact ⟨by rw [HRR.out]; first | rfl | go_num, up2 HB0.out (up2 HBW.out HB2.out)⟩
set_option maxHeartbeats 2000000 in
theorem vlines_back (h : BufR w b cs pt lo hi) (tab k n : Nat) (hn : n ≤ 1000000) (hn1 : 1 ≤ n) (h2 : lo ≤ k) (h3 : k ≤ hi) :
    Calls Tryz.prog 45 #[vwV b lo hi tab, .int .i64 k, .int .i64 (-(n : Int))] w fun e w' => e = .returned (.tuple #[.int .i64 (bwdN cs lo n (lineB cs lo k)).1, .int .i64 (bwdN cs lo n (lineB cs lo k)).2]) ∧ Below w.heap.size w w' := by
  have hl := h.len
  have HH := Lib.hid h
  obtain ⟨R, hR⟩ : ∃ R, R = bwdN cs lo n (lineB cs lo k) := ⟨_, rfl⟩
  rw [← hR]
  have HR := Lib.hid hR
  clear hR h
  have hB1 : lo ≤ lineB cs lo k := lineB_ge k
  have hB2 : lineB cs lo k ≤ k := lineB_le k h2
  go_enter Tryz.func45, Tryz.ntmps45
  go_wp2_with fail
  have HB0 := Lib.hid (below1 w (.cells #[.pointer (some ⟨b, 0, none⟩), .int .i64 lo, .int .i64 hi, .int .i64 tab] 71))
  have hv := Lib.hid (VwI.made w b lo hi tab (T := 71))
  generalize w.alloc (.cells #[.pointer (some ⟨b, 0, none⟩), .int .i64 lo, .int .i64 hi, .int .i64 tab] 71) = W at *
  go_loopw [1, 2] (fun va vb wr => va = .int .i64 k ∧ vb = .int .i64 (-(n : Int)) ∧ W = wr) (fun _ _ _ => 0)
  case atStart => exact ⟨rfl, rfl, rfl⟩
  case round =>
    obtain ⟨rfl, rfl, rfl⟩ := hrel
    have d0 : decide ((0 : Int) < -(n : Int)) = false := decide_eq_false (by omega)
    have d1 : (-(n : Int) == (0 : Int)) = false := by simp; omega
    have v0 := hv.out.c0
    have v1 := hv.out.c1
    have v2 := hv.out.c2
    have v3 := hv.out.c3
    go_wp2_with fail
    refine (vbegin (HH.out.up HB0.out) tab k hl.2.1 h2 h3).mono ?_
    rintro e w1 ⟨rfl, hb1⟩
    have HB1 := Lib.hid hb1
    clear hb1 v0 v1 v2 v3 d0 d1
    generalize lineB cs lo k = B at *
    go_wp2_with fail
    go_loopw [1, 2] (fun va vb wr => ∃ i m : Nat, lo ≤ i ∧ i ≤ hi ∧ m ≤ n ∧ va = .int .i64 i ∧ vb = .int .i64 (-(m : Int)) ∧ bwdN cs lo m i = R ∧ Below W.heap.size W wr) (fun _ vb _ => (- intOf vb).toNat)
    case atStart => exact ⟨B, n, hB1, by omega, Nat.le_refl _, rfl, rfl, HR.out.symm, HB1.out⟩
    case round =>
      obtain ⟨i, m, i1, i2, i3, rfl, rfl, hf, hbw⟩ := hrel
      have HBW := Lib.hid hbw
      have HVr := Lib.hid (hv.out.up hbw)
      have HHr := Lib.hid ((HH.out.up HB0.out).up hbw)
      cases m with
      | zero =>
        subst hf
        have z0 : -((0 : Nat) : Int) = 0 := rfl
        rw [z0]
        clear hbw HR
        go_wp2_with fail
        go_ret2
        exact ⟨by first | rfl | go_num, up2 HB0.out HBW.out⟩
      | succ q =>
        have hf2 : (if i = lo then (lo, q + 1) else bwdN cs lo q (lineB cs lo (i - 1))) = R := hf
        have HF := Lib.hid hf2
        clear hf hf2 hbw HR
        have d0 : decide (-((q + 1 : Nat) : Int) < 0) = true := decide_eq_true (by omega)
        have v0 := HVr.out.c0
        have v1 := HVr.out.c1
        have v2 := HVr.out.c2
        have v3 := HVr.out.c3
        have s1 : IntKind.i64.wrap (-((q + 1 : Nat) : Int) + 1) = -(q : Int) := by rw [IntWalk.i64_in _ (by omega)]; omega
        have s0 : IntKind.i64.wrap (- -((q + 1 : Nat) : Int)) = ((q + 1 : Nat) : Int) := by rw [IntWalk.i64_in _ (by omega)]; omega
        have d3 : (-((q + 1 : Nat) : Int) == (-9223372036854775808 : Int)) = false := by simp; omega
        by_cases he : i = lo
        · have hff := HF.out
          rw [if_pos he] at hff
          subst hff
          clear HF
          have d1 : ((i : Int) == (lo : Int)) = true := by simp [he]
          go_wp2_with fail
          go_ret2
          subst he
          exact ⟨by first | rfl | go_num, up2 HB0.out HBW.out⟩
        · have hff := HF.out
          rw [if_neg he] at hff
          have HF2 := Lib.hid hff
          clear hff HF
          have d1 : ((i : Int) == (lo : Int)) = false := by simp; omega
          have s3 : IntKind.i64.wrap ((i : Int) - 1) = ((i - 1 : Nat) : Int) := by rw [IntWalk.i64_in _ (by omega)]; omega
          have HBg := Lib.hid (vbegin HHr.out tab (i - 1) hl.2.1 (by omega) (by omega))
          have a1 : lo ≤ lineB cs lo (i - 1) := lineB_ge _
          have a2 : lineB cs lo (i - 1) ≤ i - 1 := lineB_le _ (by omega)
          have a3 : i - 1 ≤ hi := by omega
          generalize lineB cs lo (i - 1) = L at *
          generalize i - 1 = p at *
          go_wp2_with fail
          refine HBg.out.mono ?_
          rintro e w2 ⟨rfl, hb2⟩
          have HB2 := Lib.hid hb2
          clear hb2 v0 v1 v2 v3
          go_wp2_with fail
          go_roundw
          case rel => exact ⟨L, q, a1, by omega, by omega, by first | rfl | go_num, by first | rfl | go_num, HF2.out, up2 HBW.out HB2.out⟩
          case measure => simp [intOf]; omega
end
end Go.Proofs.YtcfdalmllegefaaGreatDoor
/- package column: look, Begin, End, Column, Seek, Lines. -/
namespace Go.Proofs.YtcfdalmllegefaaGreatDoor
open Go.RowKit
set_option linter.unusedVariables false
set_option linter.unusedSimpArgs false
section
variable {w w' : World} {v b pt lo hi tab : Nat} {cs : List Nat}
set_option maxHeartbeats 2000000 in
theorem look_ok (h : BufR w b cs pt lo hi) (tab k g cap : Nat) (hx : w.cell? ⟨g, 0, none⟩ = some (.int .i64 k)) (h2 : lo ≤ k) (h3 : k ≤ hi) :
    Calls Tryz.prog 44 #[.pointer (some ⟨b, 0, none⟩), .int .i64 tab, .bool true, .slice (some ⟨g, 0, none⟩) 1 cap] w fun e w' => e = .returned (.tuple #[vwV b lo hi tab, .int .i64 0]) ∧ Below w.heap.size w w' := by
  have hl := h.len
  have HH := Lib.hid h
  have hg := lt_of_cell hx
  clear h
  go_enter Tryz.func44, Tryz.ntmps44
  go_wp2_with fail
  have HB0 := Lib.hid (below1 w (.cells #[.pointer none, .int .i64 0, .int .i64 0, .int .i64 0] 71))
  have hblk := (MapKept.heap_alloc w (.cells #[.pointer none, .int .i64 0, .int .i64 0, .int .i64 0] 71)).1
  have hx2 := (World.cell?_of_block (w := w) (a := ⟨g, 0, none⟩) (HB0.out.block g hg)).trans hx
  have hsz : w.heap.size < (w.alloc (.cells #[.pointer none, .int .i64 0, .int .i64 0, .int .i64 0] 71)).heap.size := by simp
  generalize w.alloc (.cells #[.pointer none, .int .i64 0, .int .i64 0, .int .i64 0] 71) = W at *
  have HBf := Lib.hid hblk
  have HX := Lib.hid hx2
  clear hx hblk hx2
  refine (bpoint (HH.out.up HB0.out)).mono ?_
  rintro e w1 ⟨rfl, rfl⟩
  have d0 : ((pt : Int) == (0 : Int)) = false := by simp; omega
  go_wp2_with fail
  refine (breach (HH.out.up HB0.out)).mono ?_
  rintro e w1 ⟨rfl, hb1⟩
  have hblk := (hb1.block _ hsz).trans HBf.out
  have hx1 := (World.cell?_of_block (w := W) (a := ⟨g, 0, none⟩) (hb1.block g (lt_of_cell HX.out))).trans HX.out
  have HB1 := Lib.hid hb1
  have HK := Lib.hid hblk
  clear hb1 HBf HX d0 hblk
  have d1 : decide ((k : Int) < (lo : Int)) = false := decide_eq_false (by omega)
  have d2 : decide ((hi : Int) < (k : Int)) = false := decide_eq_false (by omega)
  go_wp2_with fail
  go_loopw [13, 32] (fun va vb wr => w1 = wr ∧ ∃ i : Nat, i ≤ 1 ∧ vb = .int .i64 i) (fun _ vb _ => 2 - (intOf vb).toNat)
  case atStart => exact ⟨rfl, 0, by omega, rfl⟩
  case round =>
    obtain ⟨rfl, i, hi1, rfl⟩ := hrel
    cases i with
    | zero =>
      go_wp2_with fail
      go_roundw
      case rel => exact ⟨trivial, 1, by omega, rfl⟩
      case measure => simp [intOf]
    | succ q =>
      obtain rfl : q = 0 := by omega
      have k0 : w1.cell? ⟨w.heap.size, 0, none⟩ = some (.pointer none) := by simp only [World.cell?, HK.out]; rfl
      have k1 : w1.cell? ⟨w.heap.size, 1, none⟩ = some (.int .i64 0) := by simp only [World.cell?, HK.out]; rfl
      have k2 : w1.cell? ⟨w.heap.size, 2, none⟩ = some (.int .i64 0) := by simp only [World.cell?, HK.out]; rfl
      have k3 : w1.cell? ⟨w.heap.size, 3, none⟩ = some (.int .i64 0) := by simp only [World.cell?, HK.out]; rfl
      have f0 : w1.frozen? ⟨w.heap.size, 0, none⟩ = false := by simp only [World.frozen?, HK.out]; rfl
      have f1 : w1.frozen? ⟨w.heap.size, 1, none⟩ = false := by simp only [World.frozen?, HK.out]; rfl
      have f2 : w1.frozen? ⟨w.heap.size, 2, none⟩ = false := by simp only [World.frozen?, HK.out]; rfl
      have f3 : w1.frozen? ⟨w.heap.size, 3, none⟩ = false := by simp only [World.frozen?, HK.out]; rfl
      clear hx1
      go_wp2_with fail
      refine bodyPost_ret (v := .tuple #[vwV b lo hi tab, .int .i64 0]) (by simp [results, Tryz.f44, go_sem, k0, k1, k2, k3, f0, f1, f2, f3]) rfl ⟨rfl, ?_⟩
      exact ((((up2 HB0.out HB1.out).setCell (Nat.le_refl _) _).setCell (Nat.le_refl _) _).setCell (Nat.le_refl _) _).setCell (Nat.le_refl _) _
end
end Go.Proofs.YtcfdalmllegefaaGreatDoor
