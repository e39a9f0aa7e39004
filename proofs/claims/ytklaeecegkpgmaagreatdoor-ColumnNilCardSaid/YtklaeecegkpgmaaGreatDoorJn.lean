import Derived.Test.YtklaeecegkpgmaaGreatDoorJf
import Derived.Test.YtklaeecegkpgmaaGreatDoorJb
import Derived.Laws.Tables
import Derived.Test.YtklaeecegkpgmaaGreatDoorJc
/- package runes: Is, Width, Word. -/
namespace Go.Proofs.YtklaeecegkpgmaaGreatDoor
open Go.RowKit
set_option linter.unusedVariables false
set_option linter.unusedSimpArgs false
theorem wpList_fresh {P : Program} {ops : Array Oper} {rest : List Oper} {o : Oper} {a : Act} {w : World} {Q : Exit → Act → World → Prop} (hgd : o.guard = none) (ty : TypeId) (x y : Operand) (ho : o.op = .store ty x y)
    (cells old : Array Value) (t : TypeId) (n : Nat) (hx : a.eval x = .pointer (some ⟨n, 0, none⟩)) (hn : n = w.heap.size) (hy : a.eval y = .agg cells) (hi : (P.info? ty).map (·.size) = some cells.size)
    (hold : old.size = cells.size) (h1 : cells.all (·.oneCell') = true)
    (h : wpList P ops Q rest (a.put o.dst undef) (w.alloc (.cells cells t))) : wpList P ops Q (o :: rest) a (w.alloc (.cells old t)) := by
  subst hn
  refine wpList_store_row hgd ty x y ho w.heap.size cells hx hy t old (MapKept.heap_alloc _ _).1 hi hold h1 ?_
  have e : (w.alloc (.cells old t)).setRow w.heap.size cells = w.alloc (.cells cells t) := by
    have e : ∀ (xs : Array Obj) (f : Obj → Obj) (x : Obj), (xs.push x).modify xs.size f = xs.push (f x) := fun xs f x => by
      apply Array.ext
      · simp
      · intro i h1 h2
        rw [Array.getElem_modify, Array.getElem_push, Array.getElem_push]
        by_cases h : xs.size = i
        · subst h; simp
        · have : i < xs.size := by simp at h1; omega
          simp [h, this]
    simp only [World.setRow, World.alloc, e]
  rw [e]
  exact h
def zeroL : List (Int × Int) := [(768, 879), (1155, 1161), (1425, 1469), (8203, 8207), (8400, 8447), (65024, 65039), (65056, 65071)]
def twoL : List (Int × Int) := [(0, 8), (10, 31), (127, 127), (4352, 4447), (11904, 12350), (12353, 42191), (44032, 55203), (63744, 64255), (65072, 65135), (65280, 65376), (65504, 65510), (127744, 128591), (129280, 129535), (131072, 262141)]
def wordL : List (Int × Int) := [(48, 57), (65, 90), (97, 122), (170, 170), (181, 181), (186, 186), (192, 214), (216, 246), (248, 591), (768, 893), (895, 902), (904, 1023), (1024, 1327), (1488, 1514), (12353, 12543), (13312, 40959), (44032, 55203), (131072, 262141)]
set_option maxHeartbeats 1000000 in
theorem is_ok (c : Nat) (hc : isN c) (w : World) : Calls Tryz.prog 99 #[.int .i64 c] w fun e w' => e = .returned (.bool true) ∧ w = w' := by
  obtain ⟨h1, h2⟩ := hc
  have d1 : decide ((0 : Int) ≤ (c : Int)) = true := decide_eq_true (by omega)
  have d2 : decide ((c : Int) ≤ (1114111 : Int)) = true := decide_eq_true (by omega)
  by_cases h3 : 55296 ≤ c
  · have d3 : decide ((55296 : Int) ≤ (c : Int)) = true := decide_eq_true (by omega)
    have d4 : decide ((c : Int) ≤ (57343 : Int)) = false := decide_eq_false (by omega)
    clear h1 h2 h3
    go_enter Tryz.func99, Tryz.ntmps99
    go_wp2_with fail
    go_ret
    exact ⟨rfl, rfl⟩
  · have d3 : decide ((55296 : Int) ≤ (c : Int)) = false := decide_eq_false (by omega)
    clear h1 h2 h3
    go_enter Tryz.func99, Tryz.ntmps99
    go_wp2_with fail
    go_ret
    exact ⟨rfl, rfl⟩
theorem RSl.arr {α : Type} {enc : α → List Value} {w : World} {g : Nat} {zs : List α} {T : TypeId} {C : Array Value} (hg : w.heap[g]? = some (.cells C T)) (he : C.toList = zs.flatMap enc) : RSl enc w (some ⟨g, 0, none⟩) zs := fun _ => by
  refine ⟨g, 0, rfl, (Array.getElem?_eq_some_iff.1 hg).1, fun j u hj => ?_⟩
  have e : C[j]? = some u := by rw [← Array.getElem?_toList, he]; exact hj
  simp [World.cell?, hg, e]
def widN (c : Nat) : Nat := if inS c zeroL then 0 else if inS c twoL then 2 else 1
theorem widN_le (c : Nat) : widN c ≤ 2 := by unfold widN; split <;> (try split) <;> omega


/-- The blocks of Width's two lists. -/
def wZ : Array Value := #[.int .i64 768, .int .i64 879, .int .i64 1155, .int .i64 1161, .int .i64 1425, .int .i64 1469, .int .i64 8203, .int .i64 8207, .int .i64 8400, .int .i64 8447, .int .i64 65024, .int .i64 65039, .int .i64 65056, .int .i64 65071]
def wT : Array Value := #[.int .i64 0, .int .i64 8, .int .i64 10, .int .i64 31, .int .i64 127, .int .i64 127, .int .i64 4352, .int .i64 4447, .int .i64 11904, .int .i64 12350, .int .i64 12353, .int .i64 42191, .int .i64 44032, .int .i64 55203, .int .i64 63744, .int .i64 64255, .int .i64 65072, .int .i64 65135, .int .i64 65280, .int .i64 65376, .int .i64 65504, .int .i64 65510, .int .i64 127744, .int .i64 128591, .int .i64 129280, .int .i64 129535, .int .i64 131072, .int .i64 262141]
def wW : Array Value := #[.int .i64 48, .int .i64 57, .int .i64 65, .int .i64 90, .int .i64 97, .int .i64 122, .int .i64 170, .int .i64 170, .int .i64 181, .int .i64 181, .int .i64 186, .int .i64 186, .int .i64 192, .int .i64 214, .int .i64 216, .int .i64 246, .int .i64 248, .int .i64 591, .int .i64 768, .int .i64 893, .int .i64 895, .int .i64 902, .int .i64 904, .int .i64 1023, .int .i64 1024, .int .i64 1327, .int .i64 1488, .int .i64 1514, .int .i64 12353, .int .i64 12543, .int .i64 13312, .int .i64 40959, .int .i64 44032, .int .i64 55203, .int .i64 131072, .int .i64 262141]
set_option maxRecDepth 100000 in
set_option maxHeartbeats 1000000 in
theorem width_ok (c : Nat) (hc : isN c) (w : World) : Calls Tryz.prog 89 #[.int .i64 c] w fun e w' => e = .returned (.int .i64 (widN c)) ∧ Below w.heap.size w w' := by
  have HI := Lib.hid (is_ok c hc)
  clear hc
  obtain ⟨R, hR⟩ : ∃ R, R = widN c := ⟨_, rfl⟩
  rw [← hR]
  unfold widN at hR
  have HR := Lib.hid hR
  clear hR
  go_enter Tryz.func89, Tryz.ntmps89
  go_wp2_with (first | refine wpList_fresh rfl 185 _ _ rfl wZ _ _ _ rfl (by simp) rfl (by as_aux_lemma => kernel_rfl) (by as_aux_lemma => kernel_rfl) (by as_aux_lemma => kernel_rfl) ?_ | refine wpList_fresh rfl 186 _ _ rfl wT _ _ _ rfl (by simp) rfl (by as_aux_lemma => kernel_rfl) (by as_aux_lemma => kernel_rfl) (by as_aux_lemma => kernel_rfl) ?_)
  have HB0 := Lib.hid ((below1 w (.cells wZ 185)).alloc (by simp) (.cells wT 186))
  have g0 : ((w.alloc (.cells wZ 185)).alloc (.cells wT 186)).heap[w.heap.size]? = some (.cells wZ 185) := ((MapKept.heap_alloc _ _).2 _ (by simp)).trans (MapKept.heap_alloc w _).1
  have g1 : ((w.alloc (.cells wZ 185)).alloc (.cells wT 186)).heap[w.heap.size + 1]? = some (.cells wT 186) := by
    have := (MapKept.heap_alloc (w.alloc (.cells wZ 185)) (.cells wT 186)).1
    simpa using this
  have r0 := RSl.arr (enc := encSp) (zs := zeroL) g0 (by kernel_rfl)
  have r1 := RSl.arr (enc := encSp) (zs := twoL) g1 (by kernel_rfl)
  generalize (w.alloc (.cells wZ 185)).alloc (.cells wT 186) = W at *
  have i0 := Lib.hid (in_any (c := (c : Int)) r0 7 (by decide) (by decide))
  refine (HI.out W).mono ?_
  rintro e w1 ⟨rfl, rfl⟩
  have hR := HR.out
  clear HR
  have R1 := Lib.hid r1
  clear r1 r0 g0 g1
  cases h0 : inS (c : Int) zeroL with
  | true =>
    rw [h0] at i0 hR
    simp only [if_true] at hR
    subst hR
    clear h0
    go_wp2_with fail
    refine i0.out.mono ?_
    rintro e w1 ⟨rfl, hb⟩
    have HB1 := Lib.hid (up2 HB0.out hb)
    clear hb HB0 R1
    go_wp2_with fail
    go_ret
    exact ⟨rfl, HB1.out⟩
  | false =>
    rw [h0] at i0 hR
    clear h0
    go_wp2_with fail
    refine i0.out.mono ?_
    rintro e w1 ⟨rfl, hb⟩
    have HB1 := Lib.hid (up2 HB0.out hb)
    have i1 := Lib.hid (in_any (c := (c : Int)) (R1.out.up hb) 14 (by decide) (by decide))
    clear hb HB0 R1
    cases h0 : inS (c : Int) twoL with
    | true =>
      rw [h0] at i1 hR
      simp at hR
      subst hR
      clear h0
      go_wp2_with fail
      refine i1.out.mono ?_
      rintro e w2 ⟨rfl, hb⟩
      have HB2 := Lib.hid (up2 HB1.out hb)
      clear hb
      go_wp2_with fail
      go_ret
      exact ⟨rfl, HB2.out⟩
    | false =>
      rw [h0] at i1 hR
      simp at hR
      subst hR
      clear h0
      go_wp2_with fail
      refine i1.out.mono ?_
      rintro e w2 ⟨rfl, hb⟩
      have HB2 := Lib.hid (up2 HB1.out hb)
      clear hb
      go_wp2_with fail
      go_ret
      exact ⟨rfl, HB2.out⟩
end Go.Proofs.YtklaeecegkpgmaaGreatDoor
/- package runes: Word. -/
namespace Go.Proofs.YtklaeecegkpgmaaGreatDoor
open Go.RowKit
set_option linter.unusedVariables false
set_option linter.unusedSimpArgs false
set_option maxRecDepth 100000 in
set_option maxHeartbeats 1000000 in
theorem word_ok (c : Int) (w : World) : Calls Tryz.prog 69 #[.int .i64 c] w fun e w' => e = .returned (.bool (inS c wordL)) ∧ Below w.heap.size w w' := by
  obtain ⟨R, hR⟩ : ∃ R, R = inS c wordL := ⟨_, rfl⟩
  rw [← hR]
  have HR := Lib.hid hR
  clear hR
  go_enter Tryz.func69, Tryz.ntmps69
  go_wp2_with (refine wpList_fresh rfl 126 _ _ rfl wW _ _ _ rfl (by simp) rfl (by as_aux_lemma => kernel_rfl) (by as_aux_lemma => kernel_rfl) (by as_aux_lemma => kernel_rfl) ?_)
  have HB0 := Lib.hid (below1 w (.cells wW 126))
  have g0 : (w.alloc (.cells wW 126)).heap[w.heap.size]? = some (.cells wW 126) := (MapKept.heap_alloc w _).1
  have r0 := RSl.arr (enc := encSp) (zs := wordL) g0 (by kernel_rfl)
  generalize w.alloc (.cells wW 126) = W at *
  have i0 := in_any (c := c) r0 18 (by decide) (by decide)
  rw [← HR.out] at i0
  refine i0.mono ?_
  rintro e w1 ⟨rfl, hb⟩
  have HB1 := Lib.hid (up2 HB0.out hb)
  clear hb HB0 r0 g0 i0 HR
  go_wp2_with fail
  go_ret
  exact ⟨rfl, HB1.out⟩
end Go.Proofs.YtklaeecegkpgmaaGreatDoor
/- package column: after, the view's begin and end, tabbed. -/
namespace Go.Proofs.YtklaeecegkpgmaaGreatDoor
open Go.RowKit
set_option linter.unusedVariables false
set_option linter.unusedSimpArgs false
/-- A view of a buffer, as a value. -/
abbrev vwV (b lo hi tab : Nat) : Value := .agg #[.pointer (some ⟨b, 0, none⟩), .int .i64 lo, .int .i64 hi, .int .i64 tab]
section
variable {w w' : World} {b pt lo hi : Nat} {cs : List Nat}
set_option maxHeartbeats 1000000 in
theorem after_ok (col c tab : Nat) (hc : isN c) (h1 : 1 ≤ tab) (h2 : tab ≤ 64) (h3 : col ≤ 100000000) (w : World) :
    Calls Tryz.prog 47 #[.int .i64 col, .int .i64 c, .int .i64 tab] w fun e w' => e = .returned (.int .i64 (afterN widN tab col c)) ∧ Below w.heap.size w w' := by
  unfold afterN
  by_cases h9 : c = 9
  · subst h9
    rw [if_pos rfl]
    have hm := Nat.mod_lt col (show 0 < tab by omega)
    have s1 : IntKind.i64.wrap ((col : Int) + (tab : Int)) = ((col + tab : Nat) : Int) := by rw [IntWalk.i64_in _ (by omega)]; omega
    have e2 : (Int.tmod (col : Int) (tab : Int)) = ((col % tab : Nat) : Int) := (Int.ofNat_tmod _ _).symm
    have s2 : IntKind.i64.wrap ((col % tab : Nat) : Int) = ((col % tab : Nat) : Int) := IntWalk.i64_in _ (by omega)
    generalize hM : col % tab = M at *
    have s3 : IntKind.i64.wrap (((col + tab : Nat) : Int) - (M : Int)) = ((col + tab - M : Nat) : Int) := by rw [IntWalk.i64_in _ (by omega)]; omega
    have d1 : decide ((tab : Int) = 0) = false := decide_eq_false (by omega)
    clear hM
    go_enter Tryz.func47, Tryz.ntmps47
    go_wp2_with fail
    go_ret
    exact ⟨ret_int (by omega), Below.refl _ w⟩
  · rw [if_neg h9]
    have HW := Lib.hid (width_ok c hc w)
    have hw := widN_le c
    have d1 : decide ((c : Int) = 9) = false := decide_eq_false (by omega)
    have s1 : IntKind.i64.wrap ((col : Int) + (widN c : Int)) = ((col + widN c : Nat) : Int) := by rw [IntWalk.i64_in _ (by omega)]; omega
    clear hw h1 h2 h3 hc
    go_enter Tryz.func47, Tryz.ntmps47
    go_wp2_with fail
    refine HW.out.mono ?_
    rintro e w' ⟨rfl, hb⟩
    go_wp2_with fail
    go_ret
    exact ⟨rfl, hb⟩
set_option maxHeartbeats 1000000 in
theorem tabbed_ok (tab : Nat) (h1 : 1 ≤ tab) (h2 : tab ≤ 64) (w : World) : Calls Tryz.prog 20 #[.int .i64 tab] w fun e w' => e = .returned (.bool true) ∧ w = w' := by
  have d1 : decide ((1 : Int) ≤ (tab : Int)) = true := decide_eq_true (by omega)
  have d2 : decide ((tab : Int) ≤ (64 : Int)) = true := decide_eq_true (by omega)
  clear h1 h2
  go_enter Tryz.func20, Tryz.ntmps20
  go_wp2_with fail
  go_ret
  exact ⟨rfl, rfl⟩
set_option maxHeartbeats 1000000 in
theorem vbegin (h : BufR w b cs pt lo hi) (tab k : Nat) (h1 : 1 ≤ lo) (h2 : lo ≤ k) (h3 : k ≤ hi) :
    Calls Tryz.prog 18 #[vwV b lo hi tab, .int .i64 k] w fun e w' => e = .returned (.int .i64 (lineB cs lo k)) ∧ Below w.heap.size w w' := by
  obtain ⟨R, hR⟩ : ∃ R, R = lineB cs lo k := ⟨_, rfl⟩
  rw [← hR]
  have HR := Lib.hid hR
  have hl := h.len
  have HH := Lib.hid h
  clear hR h
  go_enter Tryz.func18, Tryz.ntmps18
  go_wp2_with fail
  refine (bfindback (HH.out.up (below1 w _)) 10 lo k h1 (by omega) (by omega)).mono ?_
  rintro e w1 ⟨hb1, hf⟩
  have HB := Lib.hid (up2 (below1 w _) hb1)
  have v1 : w1.cell? ⟨w.heap.size, 1, none⟩ = some (.int .i64 lo) := by
    rw [World.cell?_of_block (hb1.block w.heap.size (by simp))]
    simp only [World.cell?, (MapKept.heap_alloc _ _).1]
    rfl
  clear hb1
  rcases hf with ⟨i, i1, i2, i3, i4, rfl⟩ | ⟨i1, rfl⟩
  · have s1 : IntKind.i64.wrap ((i : Int) + 1) = ((i + 1 : Nat) : Int) := by rw [IntWalk.i64_in _ (by omega)]; omega
    obtain rfl : R = i + 1 := HR.out.trans (lineB_eq k (i + 1) (by omega) (by omega) (fun j hj hk => i4 j (by omega) hk) (.inr ⟨by omega, i3⟩))
    go_wp2_with fail
    go_ret
    exact ⟨rfl, HB.out⟩
  · obtain rfl : R = lo := HR.out.trans (lineB_eq k lo (by omega) (by omega) i1 (.inl rfl))
    go_wp2_with fail
    go_ret
    exact ⟨rfl, HB.out⟩
theorem lineE_eq (cs : List Nat) (hi i e : Nat) (h1 : i ≤ e) (h2 : e ≤ hi) (h3 : ∀ j, i ≤ j → j < e → chr cs j ≠ 10) (h4 : e = hi ∨ chr cs e = 10) : lineE cs hi i = e := by
  have a1 := lineE_ge (cs := cs) (hi := hi) i
  have a2 := lineE_le (cs := cs) (hi := hi) i (by omega)
  have a4 := lineE_at (cs := cs) (hi := hi) i (by omega)
  rcases Nat.lt_trichotomy (lineE cs hi i) e with h | h | h
  · rcases a4 with a | ⟨_, a⟩
    · omega
    · exact absurd a (h3 _ a1 h)
  · exact h
  · rcases h4 with a | a
    · omega
    · exact absurd a (lineE_no (hi := hi) i e h1 h)
set_option maxHeartbeats 1000000 in
theorem vend (h : BufR w b cs pt lo hi) (tab k : Nat) (h1 : 1 ≤ k) (h3 : k ≤ hi) :
    Calls Tryz.prog 19 #[vwV b lo hi tab, .int .i64 k] w fun e w' => e = .returned (.int .i64 (lineE cs hi k)) ∧ Below w.heap.size w w' := by
  obtain ⟨R, hR⟩ : ∃ R, R = lineE cs hi k := ⟨_, rfl⟩
  rw [← hR]
  have HR := Lib.hid hR
  have hl := h.len
  have HH := Lib.hid h
  clear hR h
  go_enter Tryz.func19, Tryz.ntmps19
  go_wp2_with fail
  refine (bfind (HH.out.up (below1 w _)) 10 k hi h1 (by omega) (by omega)).mono ?_
  rintro e w1 ⟨hb1, hf⟩
  have HB := Lib.hid (up2 (below1 w _) hb1)
  have v1 : w1.cell? ⟨w.heap.size, 2, none⟩ = some (.int .i64 hi) := by
    rw [World.cell?_of_block (hb1.block w.heap.size (by simp))]
    simp only [World.cell?, (MapKept.heap_alloc _ _).1]
    rfl
  clear hb1
  rcases hf with ⟨i, i1, i2, i3, i4, rfl⟩ | ⟨i1, rfl⟩
  · obtain rfl : R = i := HR.out.trans (lineE_eq cs hi k i i1 (by omega) i4 (.inr i3))
    go_wp2_with fail
    go_ret
    exact ⟨rfl, HB.out⟩
  · obtain rfl : R = hi := HR.out.trans (lineE_eq cs hi k hi h3 (by omega) i1 (.inl rfl))
    go_wp2_with fail
    go_ret
    exact ⟨rfl, HB.out⟩
end
end Go.Proofs.YtklaeecegkpgmaaGreatDoor
