import Derived.Test.YtobnmpgfkgoapaaGreatDoorZ16
/- copyistlaw20, BufferPlain in plain Lean: what an edit makes of a wide buffer. -/
namespace Go.Proofs.YtobnmpgfkgoapaaGreatDoor
open Go.RowKit Go.Lib
set_option linter.unusedVariables false
set_option linter.unusedSimpArgs false
/-- All of the text is accessible; the buffer is not read-only. -/
structure Wide (T : Tx) : Prop where
  lo : T.S.lo = 1
  hi : T.S.hi = T.cs.length + 1
  ro : T.S.ro = false
theorem insN_zero {a x : Nat} {p : Bool} : insN a 0 x p = x := by unfold insN; split <;> omega
theorem putT_cs (T : Tx) (a : Nat) (s : List Nat) (bf : Bool) : (putT T a s bf).cs = insC T.cs a s := by
  unfold putT
  split
  · rename_i h
    have e : s = [] := List.eq_nil_of_length_eq_zero h
    subst e; unfold insC; simp
  · rfl
theorem putT_pt (T : Tx) (a : Nat) (s : List Nat) (bf : Bool) : (putT T a s bf).S.pt = insN a s.length T.S.pt bf := by
  unfold putT
  split
  · rename_i h; rw [h, insN_zero]
  · rfl
theorem delN_same {x p : Nat} : delN x x p = p := by unfold delN; (repeat' split) <;> omega
theorem delC_same (cs : List Nat) (x : Nat) : delC cs x x = cs := by unfold delC; simp
theorem takeT_cs (T : Tx) (x y : Nat) : (takeT T x y).cs = delC T.cs x y := by
  unfold takeT
  split
  · rename_i h; subst h; rw [delC_same]
  · rfl
theorem takeT_pt (T : Tx) (x y : Nat) : (takeT T x y).S.pt = delN x y T.S.pt := by
  unfold takeT
  split
  · rename_i h; subst h; rw [delN_same]
  · rfl
theorem Wide.put {T : Tx} (h : Wide T) {a : Nat} {s : List Nat} {bf : Bool} (h1 : 1 ≤ a) (h2 : a ≤ T.cs.length + 1) : Wide (putT T a s bf) := by
  have hl := h.lo; have hh := h.hi
  unfold putT
  split
  · exact h
  · refine ⟨?_, ?_, h.ro⟩
    · show insN a s.length T.S.lo false = 1
      unfold insN; rw [if_neg (by rintro (q | q); omega; exact absurd q.2 (by simp))]; exact hl
    · show insN a s.length T.S.hi true = (insC T.cs a s).length + 1
      rw [insC_len]
      unfold insN
      rw [if_pos (by rcases Nat.lt_or_ge a T.S.hi with q | q; exact .inl q; exact .inr ⟨by omega, rfl⟩)]; omega
theorem Wide.take {T : Tx} (h : Wide T) {x y : Nat} (h1 : 1 ≤ x) (h2 : x ≤ y) (h3 : y ≤ T.cs.length + 1) : Wide (takeT T x y) := by
  have hl := h.lo; have hh := h.hi
  unfold takeT
  split
  · exact h
  · rename_i hne
    refine ⟨?_, ?_, h.ro⟩
    · show delN x y T.S.lo = 1
      unfold delN; rw [if_neg (by omega), if_neg (by omega)]; exact hl
    · show delN x y T.S.hi = (delC T.cs x y).length + 1
      rw [delC_len h1 h2 h3]
      unfold delN; rw [if_pos (by omega)]; omega
theorem Wide.pt {T : Tx} (h : Wide T) (p : Nat) : Wide { T with S := { T.S with pt := p } } := ⟨h.lo, h.hi, h.ro⟩
theorem Wide.ins {T : Tx} (h : Wide T) {s : List Nat} {bf : Bool} (h1 : 1 ≤ T.S.pt) (h2 : T.S.pt ≤ T.cs.length + 1) : Wide (insT T s bf) := (h.put h1 h2).pt _
theorem Wide.rep {T : Tx} (h : Wide T) {x y : Nat} {s : List Nat} (h1 : 1 ≤ x) (h2 : x ≤ y) (h3 : y ≤ T.cs.length + 1) : Wide (repT T x y s) :=
  (h.take h1 h2 h3).put h1 (by rw [takeT_len h1 h2 h3]; omega)
/-- The three parts. -/
def head3 (T : Tx) (x : Nat) : ByteArray := encS (subL T.cs 1 x)
def tail3 (T : Tx) (y : Nat) : ByteArray := encS (subL T.cs y (T.cs.length + 1))
theorem subL_head (cs : List Nat) (x : Nat) : subL cs 1 x = cs.take (x - 1) := by unfold subL; simp
theorem subL_tail (cs : List Nat) {y : Nat} (h : 1 ≤ y) : subL cs y (cs.length + 1) = cs.drop (y - 1) := by
  unfold subL; rw [List.take_of_length_le (by simp; omega)]
theorem parts_put (T : Tx) {a : Nat} {s : ByteArray} {bf : Bool} (h1 : 1 ≤ a) (hv : (charsD s.data.toList).isSome = true) : head3 T a ++ s ++ tail3 T a = encS (putT T a (chrs s) bf).cs := by
  unfold head3 tail3
  rw [putT_cs, subL_head, subL_tail _ h1]
  conv => lhs; rw [← encS_chrs hv]
  rw [encS_append, encS_append]; rfl
theorem parts_ins (T : Tx) {s : ByteArray} {bf : Bool} (h1 : 1 ≤ T.S.pt) (hv : (charsD s.data.toList).isSome = true) : head3 T T.S.pt ++ s ++ tail3 T T.S.pt = encS (insT T (chrs s) bf).cs := parts_put T h1 hv
theorem parts_take (T : Tx) {x y : Nat} (h1 : 1 ≤ x) (hxy : x ≤ y) : head3 T x ++ ⟨#[]⟩ ++ tail3 T y = encS (takeT T x y).cs := by
  unfold head3 tail3
  rw [takeT_cs, subL_head, subL_tail _ (by omega), show (⟨#[]⟩ : ByteArray) = encS [] from rfl, encS_append, encS_append, List.append_nil]; rfl
theorem parts_rep (T : Tx) {x y : Nat} {s : ByteArray} (h1 : 1 ≤ x) (hxy : x ≤ y) (hy : y ≤ T.cs.length + 1) (hv : (charsD s.data.toList).isSome = true) : head3 T x ++ s ++ tail3 T y = encS (repT T x y (chrs s)).cs := by
  unfold head3 tail3 repT
  rw [putT_cs, takeT_cs, subL_head, subL_tail _ (by omega)]
  conv => lhs; rw [← encS_chrs hv]
  rw [encS_append, encS_append]
  congr 1
  unfold insC delC
  rw [List.take_append_of_le_length (by simp; omega), List.drop_append_of_le_length (by simp; omega), List.take_take]
  simp
theorem repT_pt (T : Tx) (x y : Nat) (s : List Nat) : (repT T x y s).S.pt = insN x s.length (delN x y T.S.pt) false := by unfold repT; rw [putT_pt, takeT_pt]
/-- What fits answers for short strings. -/
theorem fits_short {T : Tx} {s : ByteArray} (hl : T.cs.length ≤ 10000) (hs : s.size ≤ 60) {less : Int} (h0 : 0 ≤ less) : fitsE s T.cs.length less = if (charsD s.data.toList).isSome = true then 0 else 5 := by
  have := chrs_len s
  unfold fitsE
  rw [vld_chars]
  by_cases hv : (charsD s.data.toList).isSome = true
  · rw [if_pos hv, if_pos hv, rlenG_chars hv, if_neg (by omega)]
  · rw [if_neg hv, if_neg hv]
end Go.Proofs.YtobnmpgfkgoapaaGreatDoor
