import Derived.Test.YtnbccoelbfgmgaaGreatDoorZ03
import Derived.Test.YtnbccoelbfgmgaaGreatDoorZ04
import Derived.Test.YtnbccoelbfgmgaaGreatDoorZ17
import Derived.Test.YtnbccoelbfgmgaaGreatDoorZ02
import Derived.Test.YtnbccoelbfgmgaaGreatDoorLayK
import Derived.Shelf.Strings.Repeat
import Derived.Test.YtnbccoelbfgmgaaGreatDoorZ15
/- Rectangles in plain Lean: a text as lines; its rows, what erasing and pasting them makes of it. -/
namespace Go.Proofs.YtnbccoelbfgmgaaGreatDoor
open Go.RowKit Go.Lib
set_option linter.unusedVariables false
set_option linter.unusedSimpArgs false
/-- A line of a text: what is ahead of it, the line, what is behind it. -/
structure Zip (cs pre L suf : List Nat) : Prop where
  eq : cs = pre ++ (L ++ suf)
  nl : ∀ c ∈ L, c ≠ 10
  pr : pre = [] ∨ ∃ q, pre = q ++ [10]
  sf : suf = [] ∨ ∃ q, suf = 10 :: q
def tailJ : List (List Nat) → List Nat
  | [] => []
  | L :: Ls => 10 :: (L ++ tailJ Ls)
structure Lines (cs pre L : List Nat) (Ls : List (List Nat)) (suf : List Nat) : Prop where
  eq : cs = pre ++ (L ++ (tailJ Ls ++ suf))
  nl : ∀ K ∈ L :: Ls, ∀ c ∈ K, c ≠ 10
  pr : pre = [] ∨ ∃ q, pre = q ++ [10]
  sf : suf = [] ∨ ∃ q, suf = 10 :: q
/-- Where the j-th line begins. -/
def posZ (pre L : List Nat) : List (List Nat) → Nat → Nat
  | _, 0 => pre.length + 1
  | [], _ + 1 => 0
  | M :: Ls, j + 1 => posZ (pre ++ (L ++ [10])) M Ls j
theorem posZ_zero (pre L : List Nat) (Ls : List (List Nat)) : posZ pre L Ls 0 = pre.length + 1 := by cases Ls <;> rfl
section
variable {cs pre L suf : List Nat} {Ls : List (List Nat)}
theorem Zip.len (h : Zip cs pre L suf) : cs.length = pre.length + L.length + suf.length := by rw [h.eq]; simp; omega
theorem Zip.chr_in (h : Zip cs pre L suf) (c : Nat) (hc : c < L.length) : chr cs (pre.length + 1 + c) = L.getD c 0 := by
  unfold chr
  rw [h.eq, show pre.length + 1 + c - 1 = pre.length + c by omega, List.getD_eq_getElem?_getD, List.getElem?_append_right (by omega), Nat.add_sub_cancel_left, List.getElem?_append_left hc, List.getD_eq_getElem?_getD]
theorem Zip.chr_no (h : Zip cs pre L suf) (c : Nat) (hc : c < L.length) : chr cs (pre.length + 1 + c) ≠ 10 := by
  rw [h.chr_in c hc, List.getD_eq_getElem?_getD, List.getElem?_eq_getElem hc, Option.getD_some]
  exact h.nl _ (List.getElem_mem hc)
theorem Zip.chr_suf (h : Zip cs pre L suf) : pre.length + 1 + L.length = cs.length + 1 ∨ chr cs (pre.length + 1 + L.length) = 10 := by
  rcases h.sf with e | ⟨q, e⟩
  · left; rw [h.len, e]; simp; omega
  · right
    unfold chr
    rw [h.eq, e, show pre.length + 1 + L.length - 1 = pre.length + L.length by omega, List.getD_eq_getElem?_getD, List.getElem?_append_right (by omega), Nat.add_sub_cancel_left, List.getElem?_append_right (Nat.le_refl _), Nat.sub_self]
    rfl
theorem Zip.chr_pre (h : Zip cs pre L suf) : pre.length + 1 = 1 ∨ 1 < pre.length + 1 ∧ chr cs (pre.length + 1 - 1) = 10 := by
  rcases h.pr with e | ⟨q, e⟩
  · left; rw [e]; rfl
  · right
    refine ⟨by rw [e]; simp, ?_⟩
    unfold chr
    rw [h.eq, e, show (q ++ [10] : List Nat).length + 1 - 1 - 1 = q.length by simp, List.getD_eq_getElem?_getD, List.getElem?_append_left (by simp), List.getElem?_append_right (Nat.le_refl _), Nat.sub_self]
    rfl
theorem Zip.b (h : Zip cs pre L suf) (c : Nat) (hc : c ≤ L.length) : lineB cs 1 (pre.length + 1 + c) = pre.length + 1 :=
  lineB_eq _ _ (by omega) (by omega) (fun j h1 h2 => by
    obtain ⟨d, rfl⟩ : ∃ d, j = pre.length + 1 + d := ⟨j - (pre.length + 1), by omega⟩
    exact h.chr_no d (by omega)) h.chr_pre
theorem Zip.e (h : Zip cs pre L suf) (c : Nat) (hc : c ≤ L.length) : lineE cs (cs.length + 1) (pre.length + 1 + c) = pre.length + 1 + L.length :=
  lineE_eq _ _ _ _ (by omega) (by rw [h.len]; omega) (fun j h1 h2 => by
    obtain ⟨d, rfl⟩ : ∃ d, j = pre.length + 1 + d := ⟨j - (pre.length + 1), by omega⟩
    exact h.chr_no d (by omega)) h.chr_suf
/-- A character of width one. -/
def pch (c : Nat) : Prop := c ≠ 9 ∧ widN c = 1
theorem Zip.col (h : Zip cs pre L suf) (tab : Nat) (hp : ∀ c ∈ L, pch c) : ∀ c, c ≤ L.length → colN widN cs tab (pre.length + 1) (pre.length + 1 + c) = c
  | 0, _ => colN_self _
  | c + 1, hc => by
    rw [show pre.length + 1 + (c + 1) = pre.length + 1 + c + 1 by omega, colN_succ _ _ (by omega), h.col tab hp c (by omega), h.chr_in c (by omega), List.getD_eq_getElem?_getD, List.getElem?_eq_getElem (by omega), Option.getD_some]
    have := hp _ (List.getElem_mem (show c < L.length by omega))
    unfold afterN
    rw [if_neg this.1, this.2]
theorem Zip.seek (h : Zip cs pre L suf) (tab : Nat) (hp : ∀ c ∈ L, pch c) (left : Nat) : seekN widN cs tab (pre.length + 1) (pre.length + 1 + L.length) left = pre.length + 1 + min left L.length := by
  refine seekN_eq _ _ _ _ (by omega) (by omega) (by omega) (fun j h1 h2 => ?_) ?_
  · obtain ⟨d, rfl⟩ : ∃ d, j = pre.length + 1 + d := ⟨j - (pre.length + 1), by omega⟩
    rw [h.col tab hp d (by omega)]; omega
  · rcases Nat.lt_or_ge L.length left with g | g
    · left; omega
    · right; rw [h.col tab hp _ (by omega)]; omega
theorem Zip.next {M q : List Nat} (h : Zip cs pre L (10 :: q)) (c : Nat) (hc : c ≤ L.length) : linesF cs 1 (cs.length + 1) 1 (pre.length + 1 + c) = (pre.length + L.length + 2, 0) := by
  have h1 : fwdN cs (cs.length + 1) 1 (pre.length + 1 + c) = (pre.length + L.length + 2, 0) := by
    unfold fwdN
    rw [h.e c hc, if_neg (by rw [h.len]; simp; omega), fwdN]
    congr 1; omega
  unfold linesF
  rw [h1, if_pos rfl]
  dsimp only
  congr 1
  refine lineB_eq _ _ (by omega) (Nat.le_refl _) (fun j h1 h2 => by omega) (.inr ⟨by omega, ?_⟩)
  rcases h.chr_suf with g | g
  · rw [h.len] at g; simp at g; omega
  · rw [show pre.length + L.length + 2 - 1 = pre.length + 1 + L.length by omega]; exact g
theorem Lines.zip (h : Lines cs pre L Ls suf) : Zip cs pre L (tailJ Ls ++ suf) :=
  ⟨h.eq, h.nl _ (List.mem_cons_self ..), h.pr, by
    cases Ls with
    | nil => exact h.sf
    | cons M Ls => exact .inr ⟨_, rfl⟩⟩
theorem Lines.next {M : List Nat} (h : Lines cs pre L (M :: Ls) suf) : Lines cs (pre ++ (L ++ [10])) M Ls suf :=
  ⟨by rw [h.eq]; simp [tailJ], fun K hK => h.nl K (List.mem_cons_of_mem _ hK), .inr ⟨pre ++ L, by simp⟩, h.sf⟩
theorem Lines.len (h : Lines cs pre L Ls suf) : pre.length + L.length ≤ cs.length := by rw [h.zip.len]; omega
theorem Lines.pos_le : ∀ (Ls : List (List Nat)) {pre L : List Nat}, Lines cs pre L Ls suf → ∀ j, j ≤ Ls.length → pre.length + 1 ≤ posZ pre L Ls j ∧ posZ pre L Ls j ≤ cs.length + 1
  | Ls, pre, L, h, 0, _ => by have := h.len; rw [posZ_zero]; omega
  | [], pre, L, h, j + 1, hj => by simp at hj
  | M :: Ls, pre, L, h, j + 1, hj => by
    have := Lines.pos_le Ls h.next j (by simpa using hj)
    simp only [List.length_append, List.length_cons, List.length_nil] at this
    exact ⟨by show _ ≤ posZ (pre ++ (L ++ [10])) M Ls j; omega, this.2⟩
theorem Lines.pos_ne : ∀ (Ls : List (List Nat)) {pre L : List Nat}, Lines cs pre L Ls suf → ∀ j, j < Ls.length → posZ pre L Ls j ≠ posZ pre L Ls Ls.length
  | [], pre, L, h, j, hj => by simp at hj
  | M :: Ls, pre, L, h, 0, hj => by
    have := (Lines.pos_le Ls h.next Ls.length (Nat.le_refl _)).1
    simp only [List.length_append, List.length_cons, List.length_nil] at this
    show pre.length + 1 ≠ posZ (pre ++ (L ++ [10])) M Ls Ls.length; omega
  | M :: Ls, pre, L, h, j + 1, hj => Lines.pos_ne Ls h.next j (by simpa using hj)
theorem Lines.pos_next : ∀ (Ls : List (List Nat)) {pre L : List Nat}, Lines cs pre L Ls suf → ∀ j, j < Ls.length → (linesF cs 1 (cs.length + 1) 1 (posZ pre L Ls j)).1 = posZ pre L Ls (j + 1)
  | [], pre, L, h, j, hj => by simp at hj
  | M :: Ls, pre, L, h, 0, hj => by
    have hz : Zip cs pre L (10 :: (M ++ tailJ Ls ++ suf)) := h.zip
    show (linesF cs 1 (cs.length + 1) 1 (pre.length + 1 + 0)).1 = posZ (pre ++ (L ++ [10])) M Ls 0
    rw [hz.next (M := M) 0 (Nat.zero_le _), posZ_zero]
    simp; omega
  | M :: Ls, pre, L, h, j + 1, hj => Lines.pos_next Ls h.next j (by simpa using hj)
/-- The row of a line. -/
def rowZ (left right : Nat) (pre L : List Nat) : Row3 := ((pre.length + 1 + min left L.length : Nat), (pre.length + 1 + min right L.length : Nat), ((right - left - (min right L.length - min left L.length) : Nat) : Int))
def rowsZ (left right : Nat) (pre L : List Nat) : List (List Nat) → List Row3
  | [] => [rowZ left right pre L]
  | M :: Ls => rowZ left right pre L :: rowsZ left right (pre ++ (L ++ [10])) M Ls
theorem Zip.row (h : Zip cs pre L suf) (tab left right : Nat) (hlr : left ≤ right) (hp : ∀ c ∈ L, pch c) : rowAt cs 1 (cs.length + 1) tab left right (pre.length + 1) = rowZ left right pre L := by
  have hb := h.b 0 (Nat.zero_le _)
  have he := h.e 0 (Nat.zero_le _)
  rw [Nat.add_zero] at hb he
  unfold rowAt rowZ
  rw [hb, he, h.seek tab hp, h.seek tab hp, h.col tab hp _ (by omega), h.col tab hp _ (by omega)]
  congr 2
  split <;> omega
theorem Lines.rows : ∀ (Ls : List (List Nat)) {pre L : List Nat}, Lines cs pre L Ls suf → ∀ (tab left right : Nat), left ≤ right → (∀ K ∈ L :: Ls, ∀ c ∈ K, pch c) →
    (List.range (Ls.length + 1)).map (fun j => rowAt cs 1 (cs.length + 1) tab left right (posZ pre L Ls j)) = rowsZ left right pre L Ls
  | [], pre, L, h, tab, left, right, hlr, hp => by
    show [rowAt cs 1 (cs.length + 1) tab left right (pre.length + 1)] = _
    rw [h.zip.row tab left right hlr (hp _ (List.mem_cons_self ..))]; rfl
  | M :: Ls, pre, L, h, tab, left, right, hlr, hp => by
    rw [List.range_succ_eq_map, List.map_cons, List.map_map]
    show rowAt cs 1 (cs.length + 1) tab left right (pre.length + 1) :: (List.range (Ls.length + 1)).map (fun j => rowAt cs 1 (cs.length + 1) tab left right (posZ (pre ++ (L ++ [10])) M Ls j)) = _
    rw [h.zip.row tab left right hlr (hp _ (List.mem_cons_self ..)), Lines.rows Ls h.next tab left right hlr (fun K hK => hp K (List.mem_cons_of_mem _ hK))]
    rfl
end
theorem dw_shape (cs : List Nat) : cs.dropWhile (fun c => c != 10) = [] ∨ ∃ q, cs.dropWhile (fun c => c != 10) = 10 :: q := by
  induction cs with
  | nil => exact .inl rfl
  | cons c cs ih =>
    by_cases hc : c = 10
    · right; subst hc; exact ⟨cs, rfl⟩
    · rw [List.dropWhile_cons_of_pos (by simp [hc])]; exact ih
theorem tw_no (cs : List Nat) : ∀ c ∈ cs.takeWhile (fun c => c != 10), c ≠ 10 := by
  induction cs with
  | nil => intro c hc; simp at hc
  | cons d cs ih =>
    intro c hc
    by_cases hd : d = 10
    · subst hd; simp at hc
    · rw [List.takeWhile_cons_of_pos (by simp [hd])] at hc
      rcases List.mem_cons.1 hc with rfl | hc
      · exact hd
      · exact ih c hc
/-- The line of the last position. -/
structure LastZ (cs pre L : List Nat) (Ls : List (List Nat)) (suf preM LM : List Nat) : Prop where
  z : Zip cs preM LM suf
  p : posZ pre L Ls Ls.length = preM.length + 1
theorem lines_a : ∀ (n : Nat) (cs pre : List Nat) (y : Nat), cs.length ≤ n → (pre = [] ∨ ∃ q, pre = q ++ [10]) → y ≤ cs.length →
    ∃ Ls suf preM LM, Lines (pre ++ cs) pre (cs.takeWhile fun c => c != 10) Ls suf ∧ LastZ (pre ++ cs) pre (cs.takeWhile fun c => c != 10) Ls suf preM LM ∧ preM.length ≤ pre.length + y ∧ pre.length + y ≤ preM.length + LM.length := by
  intro n
  induction n with
  | zero =>
    intro cs pre y hn hp hy
    obtain rfl : cs = [] := List.eq_nil_of_length_eq_zero (by omega)
    simp only [List.length_nil] at hy
    refine ⟨[], [], pre, [], ⟨by simp [tailJ], by simp, hp, .inl rfl⟩, ⟨⟨by simp, by simp, hp, .inl rfl⟩, rfl⟩, by omega, by simp; omega⟩
  | succ n ih =>
    intro cs pre y hn hp hy
    have hsp := List.takeWhile_append_dropWhile (p := fun c => c != 10) (l := cs)
    have hno := tw_no cs
    have hdw := dw_shape cs
    generalize cs.takeWhile (fun c => c != 10) = L at *
    generalize cs.dropWhile (fun c => c != 10) = R at *
    subst hsp
    by_cases hyL : y ≤ L.length
    · exact ⟨[], R, pre, L, ⟨by simp [tailJ], by simpa using hno, hp, hdw⟩, ⟨⟨rfl, hno, hp, hdw⟩, rfl⟩, by omega, by omega⟩
    · rcases hdw with rfl | ⟨q, rfl⟩
      · simp at hy; omega
      · simp only [List.length_append, List.length_cons] at hn hy
        obtain ⟨Ls, suf, preM, LM, h1, h2, h3, h4⟩ := ih q (pre ++ (L ++ [10])) (y - L.length - 1) (by omega) (.inr ⟨pre ++ L, by simp⟩) (by omega)
        have e : pre ++ (L ++ 10 :: q) = pre ++ (L ++ [10]) ++ q := by simp
        rw [e]
        simp only [List.length_append, List.length_cons, List.length_nil] at h3 h4
        refine ⟨(q.takeWhile fun c => c != 10) :: Ls, suf, preM, LM, ⟨?_, ?_, hp, h1.sf⟩, ⟨h2.z, h2.p⟩, by omega, by omega⟩
        · rw [h1.eq]; simp [tailJ]
        · intro K hK
          rcases List.mem_cons.1 hK with rfl | hK
          · exact hno
          · exact h1.nl K hK
theorem lines_b : ∀ (n : Nat) (cs pre : List Nat) (x y : Nat), cs.length ≤ n → (pre = [] ∨ ∃ q, pre = q ++ [10]) → x ≤ y → y ≤ cs.length →
    ∃ pre' L Ls suf preM LM, Lines (pre ++ cs) pre' L Ls suf ∧ LastZ (pre ++ cs) pre' L Ls suf preM LM ∧ (pre'.length ≤ pre.length + x ∧ pre.length + x ≤ pre'.length + L.length) ∧ preM.length ≤ pre.length + y ∧ pre.length + y ≤ preM.length + LM.length := by
  intro n
  induction n with
  | zero =>
    intro cs pre x y hn hp hxy hy
    obtain ⟨Ls, suf, preM, LM, h1, h2, h3, h4⟩ := lines_a 0 cs pre y hn hp hy
    exact ⟨pre, _, Ls, suf, preM, LM, h1, h2, ⟨by omega, by omega⟩, h3, h4⟩
  | succ n ih =>
    intro cs pre x y hn hp hxy hy
    by_cases hx : x ≤ (cs.takeWhile fun c => c != 10).length
    · obtain ⟨Ls, suf, preM, LM, h1, h2, h3, h4⟩ := lines_a (n + 1) cs pre y hn hp hy
      exact ⟨pre, _, Ls, suf, preM, LM, h1, h2, ⟨by omega, by omega⟩, h3, h4⟩
    · have hsp := List.takeWhile_append_dropWhile (p := fun c => c != 10) (l := cs)
      have hdw := dw_shape cs
      generalize cs.takeWhile (fun c => c != 10) = L at *
      generalize cs.dropWhile (fun c => c != 10) = R at *
      subst hsp
      rcases hdw with rfl | ⟨q, rfl⟩
      · simp at hy; omega
      · simp only [List.length_append, List.length_cons] at hn hy
        obtain ⟨pre', L', Ls, suf, preM, LM, h1, h2, h3, h4⟩ := ih q (pre ++ (L ++ [10])) (x - L.length - 1) (y - L.length - 1) (by omega) (.inr ⟨pre ++ L, by simp⟩) (by omega) (by omega)
        have e : pre ++ (L ++ 10 :: q) = pre ++ (L ++ [10]) ++ q := by simp
        rw [e]
        simp only [List.length_append, List.length_cons, List.length_nil] at h3 h4
        exact ⟨pre', L', Ls, suf, preM, LM, h1, h2, by omega, by omega⟩
/-- The lines from the one of x to the one of y. -/
theorem lines_of (cs : List Nat) (x y : Nat) (h1 : 1 ≤ x) (hxy : x ≤ y) (hy : y ≤ cs.length + 1) :
    ∃ pre L Ls suf preM LM, Lines cs pre L Ls suf ∧ LastZ cs pre L Ls suf preM LM ∧ (pre.length + 1 ≤ x ∧ x ≤ pre.length + 1 + L.length) ∧ preM.length + 1 ≤ y ∧ y ≤ preM.length + 1 + LM.length := by
  obtain ⟨pre, L, Ls, suf, preM, LM, g1, g2, g3, g4⟩ := lines_b cs.length cs [] (x - 1) (y - 1) (Nat.le_refl _) (.inl rfl) (by omega) (by omega)
  rw [List.nil_append] at g1 g2
  simp only [List.length_nil] at g3 g4
  exact ⟨pre, L, Ls, suf, preM, LM, g1, g2, by omega, by omega⟩
end Go.Proofs.YtnbccoelbfgmgaaGreatDoor
/- package runes: Word. -/
namespace Go.Proofs.YtnbccoelbfgmgaaGreatDoor
open Go.RowKit
set_option linter.unusedVariables false
set_option linter.unusedSimpArgs false
end Go.Proofs.YtnbccoelbfgmgaaGreatDoor
/- package column: IndentText; look and its callers without a buffer. -/
namespace Go.Proofs.YtnbccoelbfgmgaaGreatDoor
open Go.RowKit
set_option linter.unusedVariables false
set_option linter.unusedSimpArgs false
theorem repExtra : Builder.Extra Tryz.prog Tryz.laysRepeat_ren where
  sizeBuilder := by kernel_rfl
  liesBuilder := by kernel_rfl
  t5 := Tryz.underlying5
  a5 := Tryz.isAgg5
  z5 := Tryz.sizeOf5
  v5 := Tryz.zeroValue5
  infoByte := by kernel_rfl
  cellsByte := by kernel_rfl
  sizeByte := by kernel_rfl
  neB5 := by decide
/-- n copies of a byte. -/
def repB (c : UInt8) (n : Nat) : ByteArray := ⟨(List.replicate n c).toArray⟩
theorem repeatL_one (c : UInt8) : ∀ n, Lib.repeatL [c] n = List.replicate n c
  | 0 => rfl
  | n + 1 => by
    have := repeatL_one c n
    simp [Lib.repeatL, List.replicate_succ] at this ⊢
    first | exact this | simp [this]
theorem repeat_ok (c : UInt8) (n : Nat) (hn : n ≤ 1000000) (w : World) : Calls Tryz.prog 44 #[.string ⟨#[c]⟩, .int .i64 n] w fun e w' => e = .returned (.string (repB c n)) ∧ Below w.heap.size w w' := by
  have := Any.strings_Repeat Tryz.laysRepeat repExtra ⟨#[c]⟩ n w (by omega) (by show 1 * n ≤ _; omega)
  refine this.mono ?_
  rintro e w' ⟨he, hb⟩
  refine ⟨?_, hb⟩
  rw [he]
  unfold repB
  rw [← repeatL_one]
theorem repB_size (c : UInt8) (n : Nat) : (repB c n).size = n := by simp [repB, ByteArray.size]
/-- The tabs of an indentation. -/
def tabsN (col tab : Nat) (tabs : Bool) : Nat := if tabs then col / tab else 0
def indT (col tab : Nat) (tabs : Bool) : ByteArray := repB 9 (tabsN col tab tabs) ++ repB 32 (col - tabsN col tab tabs * tab)
section
variable {w w' : World}
theorem tabbed_no (tab : Int) (h : tab < 1 ∨ 64 < tab) (w : World) : Calls Tryz.prog 63 #[.int .i64 tab] w fun e w' => e = .returned (.bool false) ∧ w = w' := by
  by_cases h1 : tab < 1
  · have d1 : decide ((1 : Int) ≤ tab) = false := decide_eq_false (by omega)
    clear h h1
    go_enter Tryz.func63, Tryz.ntmps63
    go_wp2_with fail
    go_ret
    exact ⟨rfl, rfl⟩
  · have d1 : decide ((1 : Int) ≤ tab) = true := decide_eq_true (by omega)
    have d2 : decide (tab ≤ (64 : Int)) = false := decide_eq_false (by omega)
    clear h h1
    go_enter Tryz.func63, Tryz.ntmps63
    go_wp2_with fail
    go_ret
    exact ⟨rfl, rfl⟩
end
end Go.Proofs.YtnbccoelbfgmgaaGreatDoor
/- package column: indent, Indent. -/
namespace Go.Proofs.YtnbccoelbfgmgaaGreatDoor
open Go.RowKit
set_option linter.unusedVariables false
set_option linter.unusedSimpArgs false
/-- The first character from i on, within n, that is no blank. -/
def indF (cs : List Nat) : Nat → Nat → Nat
  | 0, i => i
  | n + 1, i => if chr cs i = 32 ∨ chr cs i = 9 then indF cs n (i + 1) else i
def indN (cs : List Nat) (b e : Nat) : Nat := indF cs (e - b) b
theorem indF_is (cs : List Nat) : ∀ n i, i ≤ indF cs n i ∧ indF cs n i ≤ i + n ∧ (∀ j, i ≤ j → j < indF cs n i → chr cs j = 32 ∨ chr cs j = 9) ∧ (indF cs n i = i + n ∨ ¬ (chr cs (indF cs n i) = 32 ∨ chr cs (indF cs n i) = 9))
  | 0, i => ⟨Nat.le_refl _, Nat.le_refl _, fun j h1 h2 => by unfold indF at h2; omega, .inl rfl⟩
  | n + 1, i => by
    unfold indF
    split
    · rename_i h
      obtain ⟨a1, a2, a3, a4⟩ := indF_is cs n (i + 1)
      refine ⟨by omega, by omega, fun j h1 h2 => ?_, ?_⟩
      · by_cases e : j = i
        · subst e; exact h
        · exact a3 j (by omega) h2
      · exact a4.elim (fun e => .inl (by omega)) .inr
    · rename_i h
      exact ⟨Nat.le_refl _, by omega, fun j h1 h2 => by omega, .inr h⟩
theorem indN_is (cs : List Nat) {b e : Nat} (h : b ≤ e) : b ≤ indN cs b e ∧ indN cs b e ≤ e ∧ (∀ j, b ≤ j → j < indN cs b e → chr cs j = 32 ∨ chr cs j = 9) ∧ (indN cs b e = e ∨ ¬ (chr cs (indN cs b e) = 32 ∨ chr cs (indN cs b e) = 9)) := by
  obtain ⟨a1, a2, a3, a4⟩ := indF_is cs (e - b) b
  unfold indN
  exact ⟨a1, by omega, a3, a4.elim (fun q => .inl (by omega)) .inr⟩
theorem indN_eq (cs : List Nat) {b e i : Nat} (h1 : b ≤ i) (h2 : i ≤ e) (h3 : ∀ j, b ≤ j → j < i → chr cs j = 32 ∨ chr cs j = 9) (h4 : i = e ∨ ¬ (chr cs i = 32 ∨ chr cs i = 9)) : indN cs b e = i := by
  obtain ⟨a1, a2, a3, a4⟩ := indN_is cs (b := b) (e := e) (by omega)
  rcases Nat.lt_trichotomy (indN cs b e) i with h | h | h
  · rcases a4 with a | a
    · omega
    · exact absurd (h3 _ a1 h) a
  · exact h
  · rcases h4 with a | a
    · omega
    · exact absurd (a3 i h1 h) a
section
variable {w w' : World} {b pt lo hi tab : Nat} {cs : List Nat}
end
end Go.Proofs.YtnbccoelbfgmgaaGreatDoor
/- package column: SetIndent at a plain buffer. -/
namespace Go.Proofs.YtnbccoelbfgmgaaGreatDoor
open Go.RowKit Go.Lib
set_option linter.unusedVariables false
set_option linter.unusedSimpArgs false
/-- The characters of an indentation. -/
def indC (col tab : Nat) (tabs : Bool) : List Nat := List.replicate (tabsN col tab tabs) 9 ++ List.replicate (col - tabsN col tab tabs * tab) 32
theorem encS_ascii (c n : Nat) (hc : c < 128) : encS (List.replicate n c) = repB (UInt8.ofNat c) n := by
  have hN : isN c := by unfold isN; omega
  refine bytes_ext ?_
  rw [encS_list]
  unfold encL repB
  induction n with
  | zero => simp
  | succ n ih =>
    rw [List.replicate_succ, List.flatMap_cons, ih, enc1 hN hc]
    simp [List.replicate_succ]
theorem encS_indC (col tab : Nat) (tabs : Bool) : encS (indC col tab tabs) = indT col tab tabs := by
  unfold indC indT
  rw [← encS_append, encS_ascii 9 _ (by omega), encS_ascii 32 _ (by omega)]; rfl
theorem indC_isN (col tab : Nat) (tabs : Bool) : ∀ c ∈ indC col tab tabs, isN c := fun c hc => by
  unfold indC at hc
  simp only [List.mem_append, List.mem_replicate] at hc
  unfold isN
  rcases hc with ⟨_, rfl⟩ | ⟨_, rfl⟩ <;> omega
theorem chrs_indT (col tab : Nat) (tabs : Bool) : chrs (indT col tab tabs) = indC col tab tabs ∧ (charsD (indT col tab tabs).data.toList).isSome = true := by
  rw [← encS_indC]; exact chrs_encS (indC_isN _ _ _)
theorem tabsN_mul (col tab : Nat) (tabs : Bool) : tabsN col tab tabs * tab ≤ col := by
  unfold tabsN
  split
  · exact Nat.div_mul_le_self _ _
  · omega
theorem tabsN_le (col tab : Nat) (tabs : Bool) : tabsN col tab tabs ≤ col := by
  unfold tabsN
  split
  · exact Nat.div_le_self _ _
  · omega
theorem indC_len (col tab : Nat) (tabs : Bool) : (indC col tab tabs).length ≤ 2 * col := by
  have := tabsN_le col tab tabs
  unfold indC; simp; omega
theorem indT_size (col tab : Nat) (tabs : Bool) : (indT col tab tabs).size ≤ 2 * col := by
  have := tabsN_le col tab tabs
  unfold indT; rw [ByteArray.size_append, repB_size, repB_size]; omega
/-- Where the indentation of a line lies. -/
def indA (T : Tx) (k : Nat) : Nat := lineB T.cs T.S.lo k
def indZ (T : Tx) (k : Nat) : Nat := indN T.cs (lineB T.cs T.S.lo k) (lineE T.cs T.S.hi k)
/-- Behind SetIndent. -/
def sindT (T : Tx) (k col tab : Nat) (tabs : Bool) : Tx := if encS (subL T.cs (indA T k) (indZ T k)) = indT col tab tabs then T else repT T (indA T k) (indZ T k) (indC col tab tabs)
theorem str_ne1 {x y : ByteArray} (h : ¬ x = y) : (x.toList == y.toList) = false := by
  have e : x.toList ≠ y.toList := fun e => h (bytes_ext (by rw [← ByteArray.toList_eq, ← ByteArray.toList_eq]; exact e))
  exact beq_eq_false_iff_ne.2 e
section
variable {N : Nat} {w w' : World} {b : Nat} {F : Nat → Prop} {T : Tx} {B : Nat}
theorem ind_rel {k : Nat} (hs : Sane T.S T.cs.length) (h2 : T.S.lo ≤ k) (h3 : k ≤ T.S.hi) : T.S.lo ≤ indA T k ∧ indA T k ≤ indZ T k ∧ indZ T k ≤ T.S.hi ∧ indA T k ≤ k := by
  have hB2 : lineB T.cs T.S.lo k ≤ k := lineB_le k h2
  have hB1 : T.S.lo ≤ lineB T.cs T.S.lo k := lineB_ge k
  have hE1 : k ≤ lineE T.cs T.S.hi k := lineE_ge k
  have hE2 : lineE T.cs T.S.hi k ≤ T.S.hi := lineE_le k h3
  have hq := indN_is T.cs (b := lineB T.cs T.S.lo k) (e := lineE T.cs T.S.hi k) (by omega)
  unfold indA indZ
  omega
end
end Go.Proofs.YtnbccoelbfgmgaaGreatDoor
/- ColumnIndents, in plain Lean: what SetIndent makes of a text. -/
namespace Go.Proofs.YtnbccoelbfgmgaaGreatDoor
open Go.RowKit Go.Lib
set_option linter.unusedVariables false
set_option linter.unusedSimpArgs false
/-! ### bytes -/
theorem mem_byte (s : ByteArray) (i : Nat) (h : i < s.size) : s[i] ∈ s.data.toList := by
  have e : s[i] = s.data[i]'h := rfl
  rw [e]; exact Array.mem_toList_iff.2 (Array.getElem_mem h)
theorem encL_ascii : ∀ (L : List Nat), (∀ c ∈ L, c < 128) → encL L = L.map UInt8.ofNat
  | [], _ => rfl
  | c :: L, h => by
    have hc : c < 128 := h c List.mem_cons_self
    rw [encL_cons, encL_ascii L (fun x hx => h x (List.mem_cons_of_mem _ hx)), enc1 (by unfold isN; omega) hc]; rfl
theorem blank_byte {L : List Nat} (h : ∀ c ∈ L, c = 32 ∨ c = 9) (i : Nat) (hi : i < (encS L).size) : ((encS L)[i].toNat : Int) = 32 ∨ ((encS L)[i].toNat : Int) = 9 := by
  have hm := mem_byte (encS L) i hi
  rw [encS_list, encL_ascii L (fun c hc => by rcases h c hc with e | e <;> omega), List.mem_map] at hm
  obtain ⟨c, hc, e⟩ := hm
  rw [← e, un8 c (by rcases h c hc with q | q <;> omega)]
  rcases h c hc with q | q <;> omega
theorem head_byte {s : ByteArray} {u : UInt8} {r : List UInt8} (e : s.data.toList = u :: r) (h : 0 < s.size) : s[0] = u := by
  have e1 : s[0] = s.data[0]'h := rfl
  have e2 : s.data[0]'h = s.data.toList[0]'(by rw [e]; simp) := (Array.getElem_toList h).symm
  rw [e1, e2]; simp [e]
theorem enc_head {c : Nat} (h : isN c) : ∃ u r, (Utf8.encode (c : Int)).data.toList = u :: r ∧ (u.toNat = c ∨ 192 ≤ u.toNat) := by
  have hb := h
  unfold isN at hb
  by_cases h1 : c < 128
  · exact ⟨_, _, enc1 h h1, .inl (un8 c (by omega))⟩
  · by_cases h2 : c < 2048
    · exact ⟨_, _, enc2 h h1 h2, .inr (by rw [un8 _ (by omega)]; omega)⟩
    · by_cases h3 : c < 65536
      · exact ⟨_, _, enc3 h h1 h2 h3, .inr (by rw [un8 _ (by omega)]; omega)⟩
      · exact ⟨_, _, enc4 h h1 h2 h3, .inr (by rw [un8 _ (by omega)]; omega)⟩
theorem tail_byte {c : Nat} {L : List Nat} (hc : isN c) (h : ¬ (c = 32 ∨ c = 9)) : ∃ (q : 0 < (encS (c :: L)).size), ¬ ((encS (c :: L))[0].toNat : Int) = 32 ∧ ¬ ((encS (c :: L))[0].toNat : Int) = 9 := by
  obtain ⟨u, r, e, hu⟩ := enc_head hc
  have e2 : (encS (c :: L)).data.toList = u :: (r ++ encL L) := by rw [encS_list, encL_cons, e]; rfl
  have q : 0 < (encS (c :: L)).size := by
    have : (encS (c :: L)).data.toList.length = (encS (c :: L)).size := size_len _
    rw [e2] at this; simp only [List.length_cons] at this; omega
  refine ⟨q, ?_⟩
  rw [head_byte e2 q]
  omega
theorem rep_byte (n i : Nat) (h : i < (repB 32 n).size) : ((repB 32 n)[i].toNat : Int) = 32 := by
  have hm := mem_byte _ i h
  have e : (repB 32 n).data.toList = List.replicate n 32 := by unfold repB; simp
  rw [e] at hm
  rw [(List.mem_replicate.1 hm).2]; rfl
/-! ### a text with a piece turned -/
theorem chr_left {A D : List Nat} {j : Nat} (h1 : 1 ≤ j) (h : j ≤ A.length) : chr (A ++ D) j = chr A j := by
  unfold chr
  rw [List.getD_eq_getElem?_getD, List.getD_eq_getElem?_getD, List.getElem?_append_left (by omega)]
theorem chr_right {A D : List Nat} {j : Nat} (h : A.length + 1 ≤ j) : chr (A ++ D) j = chr D (j - A.length) := by
  unfold chr
  rw [List.getD_eq_getElem?_getD, List.getD_eq_getElem?_getD, List.getElem?_append_right (by omega), show j - 1 - A.length = j - A.length - 1 by omega]
theorem chr_drop {cs : List Nat} {m j : Nat} (h : 1 ≤ j) : chr (cs.drop m) j = chr cs (m + j) := by
  unfold chr
  rw [List.getD_eq_getElem?_getD, List.getD_eq_getElem?_getD, List.getElem?_drop, show m + (j - 1) = m + j - 1 by omega]
theorem chr_take {cs : List Nat} {m j : Nat} (h1 : 1 ≤ j) (h : j ≤ m) : chr (cs.take m) j = chr cs j := by
  unfold chr
  rw [List.getD_eq_getElem?_getD, List.getD_eq_getElem?_getD, List.getElem?_take, if_pos (by omega)]
/-- A text with another piece from x to y. -/
def newC (cs : List Nat) (x y : Nat) (I : List Nat) : List Nat := cs.take (x - 1) ++ (I ++ cs.drop (y - 1))
section
variable {cs I : List Nat} {x y : Nat}
theorem newC_len (h1 : 1 ≤ x) (hxy : x ≤ y) (hy : y ≤ cs.length + 1) : (newC cs x y I).length = cs.length - (y - x) + I.length := by unfold newC; simp; omega
theorem newC_head (h1 : 1 ≤ x) (hx : x ≤ cs.length + 1) {j : Nat} (hj1 : 1 ≤ j) (hj : j < x) : chr (newC cs x y I) j = chr cs j := by
  unfold newC
  rw [chr_left hj1 (by simp; omega), chr_take hj1 (by omega)]
theorem newC_mid (h1 : 1 ≤ x) (hx : x ≤ cs.length + 1) {j : Nat} (hj : j < I.length) : chr (newC cs x y I) (x + j) = chr I (j + 1) := by
  have e : (cs.take (x - 1)).length = x - 1 := by simp; omega
  unfold newC
  rw [chr_right (by omega), e, show x + j - (x - 1) = j + 1 by omega, chr_left (by omega) (by omega)]
theorem newC_tail (h1 : 1 ≤ x) (hx : x ≤ cs.length + 1) (hy : 1 ≤ y) {j : Nat} : chr (newC cs x y I) (x + I.length + j) = chr cs (y + j) := by
  have e : (cs.take (x - 1)).length = x - 1 := by simp; omega
  unfold newC
  rw [chr_right (by omega), e, chr_right (by omega), chr_drop (by omega)]
  congr 1; omega
theorem newC_self (h1 : 1 ≤ x) (hxy : x ≤ y) (hy : y ≤ cs.length + 1) : newC cs x y (subL cs x y) = cs := by
  unfold newC subL
  have e2 : cs.drop (y - 1) = (cs.drop (x - 1)).drop (y - x) := by rw [List.drop_drop]; congr 1; omega
  rw [e2, List.take_append_drop, List.take_append_drop]
theorem newC_sub (h1 : 1 ≤ x) (hx : x ≤ cs.length + 1) : subL (newC cs x y I) x (x + I.length) = I := by
  have e : (cs.take (x - 1)).length = x - 1 := by simp; omega
  unfold newC subL
  rw [List.drop_append_of_le_length (by omega), List.drop_take_self, List.nil_append, show x + I.length - x = I.length by omega, List.take_left]
end
theorem chr_mem {L : List Nat} {j : Nat} (h1 : 1 ≤ j) (h : j ≤ L.length) : chr L j ∈ L := by
  unfold chr
  rw [List.getD_eq_getElem?_getD, List.getElem?_eq_getElem (by omega)]
  exact List.getElem_mem _
/-- Where the indentation of a line lies, behind the change. -/
theorem ind_new {cs I : List Nat} {k x y : Nat} (h1 : 1 ≤ k) (h2 : k ≤ cs.length + 1) (hx : x = lineB cs 1 k) (hy : y = indN cs (lineB cs 1 k) (lineE cs (cs.length + 1) k)) (hI : ∀ c ∈ I, c = 32 ∨ c = 9) :
    lineB (newC cs x y I) 1 x = x ∧ indN (newC cs x y I) x (lineE (newC cs x y I) ((newC cs x y I).length + 1) x) = x + I.length ∧ lineB (newC cs x y I) 1 (x + I.length) = x := by
  have b1 : 1 ≤ lineB cs 1 k := lineB_ge k
  have b2 : lineB cs 1 k ≤ k := lineB_le k h1
  have e1 : k ≤ lineE cs (cs.length + 1) k := lineE_ge k
  have e2 : lineE cs (cs.length + 1) k ≤ cs.length + 1 := lineE_le k h2
  have e3 := lineE_at (cs := cs) (hi := cs.length + 1) k h2
  obtain ⟨q1, q2, q3, q4⟩ := indN_is cs (b := lineB cs 1 k) (e := lineE cs (cs.length + 1) k) (by omega)
  have b3 := lineB_at (cs := cs) (lo := 1) k
  rw [← hy] at q1 q2 q3 q4
  rw [← hx] at b1 b2 b3 q1 q3
  have hmid : ∀ j, x ≤ j → j < x + I.length → chr (newC cs x y I) j = 32 ∨ chr (newC cs x y I) j = 9 := fun j g1 g2 => by
    have := newC_mid (cs := cs) (I := I) (x := x) (y := y) b1 (by omega) (j := j - x) (by omega)
    rw [show x + (j - x) = j by omega] at this
    rw [this]
    exact hI _ (chr_mem (by omega) (by omega))
  have hst : x = 1 ∨ 1 < x ∧ chr (newC cs x y I) (x - 1) = 10 := by
    rcases b3 with b | ⟨b, c⟩
    · exact .inl b
    · refine .inr ⟨b, ?_⟩
      rw [newC_head b1 (by omega) (by omega) (by omega)]; exact c
  have hlen := newC_len (cs := cs) (I := I) (x := x) (y := y) b1 q1 (by omega)
  have L1 : lineB (newC cs x y I) 1 x = x := lineB_eq x x b1 (Nat.le_refl _) (fun j g1 g2 => by omega) hst
  have L3 : lineB (newC cs x y I) 1 (x + I.length) = x := lineB_eq _ x b1 (by omega) (fun j g1 g2 => by rcases hmid j g1 g2 with e | e <;> omega) hst
  refine ⟨L1, ?_, L3⟩
  have f1 : x ≤ lineE (newC cs x y I) ((newC cs x y I).length + 1) x := lineE_ge x
  have f2 : lineE (newC cs x y I) ((newC cs x y I).length + 1) x ≤ (newC cs x y I).length + 1 := lineE_le x (by omega)
  have f3 := lineE_at (cs := newC cs x y I) (hi := (newC cs x y I).length + 1) x (by omega)
  have f4 : x + I.length ≤ lineE (newC cs x y I) ((newC cs x y I).length + 1) x := by
    rcases Nat.lt_or_ge (lineE (newC cs x y I) ((newC cs x y I).length + 1) x) (x + I.length) with g | g
    · rcases f3 with a | ⟨_, a⟩
      · omega
      · rcases hmid _ f1 g with e | e <;> omega
    · exact g
  refine indN_eq _ (by omega) f4 hmid ?_
  have ht := newC_tail (cs := cs) (I := I) (x := x) (y := y) b1 (by omega) (by omega) (j := 0)
  rw [Nat.add_zero, Nat.add_zero] at ht
  rw [ht]
  rcases q4 with a | a
  · rcases e3 with c | ⟨_, c⟩
    · left; omega
    · right; rw [a, c]; omega
  · exact .inr a
/-! ### its column -/
theorem col_tabs {cs : List Nat} {tab b : Nat} (ht : 1 ≤ tab) : ∀ k, (∀ j, j < k → chr cs (b + j) = 9) → colN widN cs tab b (b + k) = k * tab
  | 0, _ => by rw [Nat.add_zero, colN_self]; omega
  | k + 1, h => by
    have ih := col_tabs (cs := cs) (b := b) ht k (fun j hj => h j (by omega))
    rw [show b + (k + 1) = (b + k) + 1 by omega, colN_succ b (b + k) (by omega), ih, h k (by omega)]
    unfold afterN
    rw [if_pos rfl, Nat.mul_mod_left, Nat.succ_mul]; omega
theorem wid_space : widN 32 = 1 := by decide
theorem col_spaces {cs : List Nat} {tab b e : Nat} (hb : b ≤ e) : ∀ k, (∀ j, j < k → chr cs (e + j) = 32) → colN widN cs tab b (e + k) = colN widN cs tab b e + k
  | 0, _ => rfl
  | k + 1, h => by
    have ih := col_spaces (cs := cs) (tab := tab) hb k (fun j hj => h j (by omega))
    rw [show e + (k + 1) = (e + k) + 1 by omega, colN_succ b (e + k) (by omega), ih, h k (by omega)]
    unfold afterN
    rw [if_neg (by omega), wid_space]; omega
theorem indC_blank (col tab : Nat) (tabs : Bool) : ∀ c ∈ indC col tab tabs, c = 32 ∨ c = 9 := fun c hc => by
  unfold indC at hc
  simp only [List.mem_append, List.mem_replicate] at hc
  rcases hc with ⟨_, e⟩ | ⟨_, e⟩ <;> omega
theorem indC_length (col tab : Nat) (tabs : Bool) : (indC col tab tabs).length = tabsN col tab tabs + (col - tabsN col tab tabs * tab) := by unfold indC; simp
theorem indC_chr (col tab : Nat) (tabs : Bool) {j : Nat} (h : j < (indC col tab tabs).length) : chr (indC col tab tabs) (j + 1) = if j < tabsN col tab tabs then 9 else 32 := by
  rw [indC_length] at h
  unfold chr indC
  rw [List.getD_eq_getElem?_getD, Nat.add_sub_cancel, List.getElem?_append, List.length_replicate]
  split
  · rename_i g; simp [List.getElem?_replicate, g]
  · rename_i g; simp [List.getElem?_replicate]; rw [if_pos (by omega)]; rfl
theorem ind_col {cs : List Nat} {x y col tab : Nat} {tabs : Bool} (ht : 1 ≤ tab) (h1 : 1 ≤ x) (hx : x ≤ cs.length + 1) :
    colN widN (newC cs x y (indC col tab tabs)) tab x (x + (indC col tab tabs).length) = col := by
  have hm := tabsN_mul col tab tabs
  have hg : ∀ j, j < (indC col tab tabs).length → chr (newC cs x y (indC col tab tabs)) (x + j) = if j < tabsN col tab tabs then 9 else 32 := fun j hj => by
    rw [newC_mid h1 hx hj, indC_chr col tab tabs hj]
  have hl := indC_length col tab tabs
  have c1 := col_tabs (cs := newC cs x y (indC col tab tabs)) (b := x) ht (tabsN col tab tabs) (fun j hj => by rw [hg j (by omega), if_pos hj])
  have c2 := col_spaces (cs := newC cs x y (indC col tab tabs)) (tab := tab) (b := x) (e := x + tabsN col tab tabs) (by omega) (col - tabsN col tab tabs * tab) (fun j hj => by
    rw [Nat.add_assoc, hg _ (by omega), if_neg (by omega)])
  rw [hl, ← Nat.add_assoc, c2, c1]; omega
end Go.Proofs.YtnbccoelbfgmgaaGreatDoor
/- Rectangles in plain Lean: what erase and paste make of a plain buffer. -/
namespace Go.Proofs.YtnbccoelbfgmgaaGreatDoor
open Go.RowKit Go.Lib
set_option linter.unusedVariables false
set_option linter.unusedSimpArgs false
/-- What erase does: the last row first. -/
def erF (T : Tx) : List Row3 → Int × Tx
  | [] => (0, T)
  | r :: l => if (erF T l).1 = 0 then (delE (erF T l).2 r.1 r.2.1, if delE (erF T l).2 r.1 r.2.1 = 0 then takeT (erF T l).2 r.1.toNat r.2.1.toNat else (erF T l).2) else erF T l
/-- One text put at a position. -/
def putX (T : Tx) (a : Nat) (s : ByteArray) : Tx := if putEr T a s = 0 then putT T a (chrs s) false else T
/-- One row of paste: the error, the state, where it stands. -/
def paste1 (tab col : Nat) (T : Tx) (at' : Nat) (s : ByteArray) : Int × Tx × Nat :=
  let q := seekN widN T.cs tab (lineB T.cs T.S.lo at') (lineE T.cs T.S.hi at') col
  let n := colN widN T.cs tab (lineB T.cs T.S.lo at') q
  if n < col then
    if putEr T q (repB 32 (col - n)) = 0 then (putEr (putX T q (repB 32 (col - n))) (q + (col - n) : Nat) s, putX (putX T q (repB 32 (col - n))) (q + (col - n)) s, q + (col - n))
    else (putEr T q (repB 32 (col - n)), T, q)
  else (putEr T q s, putX T q s, q)
/-- On to the next line. -/
def pasteN (T : Tx) (at' : Nat) : Int × Tx × Nat :=
  if 0 < (linesF T.cs T.S.lo T.S.hi 1 at').2 then
    if putEr T (linesF T.cs T.S.lo T.S.hi 1 at').1 ⟨#[10]⟩ = 0 then (0, putX T (linesF T.cs T.S.lo T.S.hi 1 at').1 ⟨#[10]⟩, (linesF T.cs T.S.lo T.S.hi 1 at').1 + 1) else (putEr T (linesF T.cs T.S.lo T.S.hi 1 at').1 ⟨#[10]⟩, T, (linesF T.cs T.S.lo T.S.hi 1 at').1)
  else (0, T, (linesF T.cs T.S.lo T.S.hi 1 at').1)
/-- A row behind others. -/
def paste2 (tab col : Nat) (T : Tx) (at' : Nat) (s : ByteArray) : Int × Tx × Nat :=
  if (pasteN T at').1 = 0 then paste1 tab col (pasteN T at').2.1 (pasteN T at').2.2 s else pasteN T at'
def pasteR (tab col : Nat) (x : Int × Tx × Nat) : List ByteArray → Int × Tx × Nat
  | [] => x
  | s :: l => if x.1 = 0 then pasteR tab col (paste2 tab col x.2.1 x.2.2 s) l else x
/-- What paste does. -/
def pasteF (tab col : Nat) (T : Tx) (at' : Nat) : List ByteArray → Int × Tx × Nat
  | [] => (0, T, at')
  | s :: l => pasteR tab col (paste1 tab col T at' s) l
theorem pasteR_err (tab col : Nat) (x : Int × Tx × Nat) (l : List ByteArray) (h : ¬ x.1 = 0) : pasteR tab col x l = x := by cases l with
  | nil => rfl
  | cons s l => unfold pasteR; rw [if_neg h]
theorem pasteR_snoc (tab col : Nat) : ∀ (l : List ByteArray) (x : Int × Tx × Nat) (s : ByteArray), (pasteR tab col x l).1 = 0 → pasteR tab col x (l ++ [s]) = paste2 tab col (pasteR tab col x l).2.1 (pasteR tab col x l).2.2 s
  | [], x, s, h => by
    have hx : x.1 = 0 := h
    show (if x.1 = 0 then pasteR tab col (paste2 tab col x.2.1 x.2.2 s) [] else x) = paste2 tab col x.2.1 x.2.2 s
    rw [if_pos hx]; rfl
  | a :: l, x, s, h => by
    by_cases hx : x.1 = 0
    · have e1 : pasteR tab col x (a :: l) = pasteR tab col (paste2 tab col x.2.1 x.2.2 a) l := by
        show (if x.1 = 0 then _ else _) = _
        rw [if_pos hx]
      have e2 : pasteR tab col x (a :: l ++ [s]) = pasteR tab col (paste2 tab col x.2.1 x.2.2 a) (l ++ [s]) := by
        show (if x.1 = 0 then pasteR tab col (paste2 tab col x.2.1 x.2.2 a) (l ++ [s]) else _) = _
        rw [if_pos hx]
      rw [e1] at h ⊢
      rw [e2]
      exact pasteR_snoc tab col l _ s h
    · rw [pasteR_err tab col x _ hx] at h
      exact absurd h hx
/-- The state of a wide buffer whose open group gives base. -/
structure Keep (base : List Nat) (G : List (List Chg)) (T : Tx) (K : Nat) : Prop where
  wide : Wide T
  grp : Grp base T K
  g : T.G = G
  ch : T.ch = -1
section
variable {base : List Nat} {G : List (List Chg)} {T : Tx} {K : Nat}
theorem Keep.put (h : Keep base G T K) (a : Nat) (s : List Nat) (h1 : 1 ≤ a) (h2 : a ≤ T.cs.length + 1) (hs : ∀ c ∈ s, isN c) : Keep base G (putT T a s false) (K + s.length + 12) := by
  refine ⟨h.wide.put h1 h2, h.grp.put a s false h1 h2 hs, ?_, ?_⟩
  · unfold putT; split <;> exact h.g
  · unfold putT; split <;> exact h.ch
theorem Keep.take (h : Keep base G T K) (x y : Nat) (h1 : 1 ≤ x) (hxy : x ≤ y) (hy : y ≤ T.cs.length + 1) (hlen : T.cs.length ≤ 60000) : Keep base G (takeT T x y) (K + 12) := by
  refine ⟨h.wide.take h1 hxy hy, h.grp.take x y h1 hxy hy hlen, ?_, ?_⟩
  · unfold takeT; split <;> exact h.g
  · unfold takeT; split <;> exact h.ch
theorem Keep.mono {K' : Nat} (h : Keep base G T K) (hK : K ≤ K') : Keep base G T K' := ⟨h.wide, h.grp.mono hK, h.g, h.ch⟩
theorem delE_wide (h : Wide T) {x y : Nat} (h1 : 1 ≤ x) (hxy : x ≤ y) (hy : y ≤ T.cs.length + 1) : delE T x y = 0 := by
  have hl := h.lo; have hh := h.hi
  unfold delE; rw [if_pos (reach_iff.2 ⟨by omega, by omega, by omega⟩)]
theorem putEr_wide (h : Wide T) {a : Nat} {s : ByteArray} (h1 : 1 ≤ a) (ha : a ≤ T.cs.length + 1) (hv : (charsD s.data.toList).isSome = true) (hl : T.cs.length + (chrs s).length ≤ 65536) : putEr T a s = 0 := by
  have hlo := h.lo; have hh := h.hi
  unfold putEr; rw [if_pos (reach_iff.2 ⟨by omega, by omega, by omega⟩)]
  unfold fitsE
  rw [vld_chars, hv, if_pos rfl, rlenG_chars hv, if_neg (by omega)]
end
/-- Without the rectangle's columns. -/
def cutK (left right : Nat) (K : List Nat) : List Nat := K.take left ++ K.drop right
theorem delC_zip (P L S : List Nat) {a b : Nat} (hab : a ≤ b) (hb : b ≤ L.length) : delC (P ++ (L ++ S)) (P.length + 1 + a) (P.length + 1 + b) = P ++ ((L.take a ++ L.drop b) ++ S) := by
  unfold delC
  rw [show P.length + 1 + a - 1 = P.length + a by omega, show P.length + 1 + b - 1 = P.length + b by omega, List.take_append, List.drop_append]
  rw [List.take_of_length_le (by omega), List.drop_of_length_le (by omega), Nat.add_sub_cancel_left, Nat.add_sub_cancel_left, List.take_append_of_le_length (by omega), List.drop_append_of_le_length hb]
  simp
theorem insC_zip (P L S s : List Nat) {a : Nat} (ha : a ≤ L.length) : insC (P ++ (L ++ S)) (P.length + 1 + a) s = P ++ ((L.take a ++ s ++ L.drop a) ++ S) := by
  unfold insC
  rw [show P.length + 1 + a - 1 = P.length + a by omega, List.take_append, List.drop_append]
  rw [List.take_of_length_le (by omega), List.drop_of_length_le (by omega), Nat.add_sub_cancel_left, List.take_append_of_le_length (by omega), List.drop_append_of_le_length ha]
  simp
theorem take_min (L : List Nat) (n : Nat) : L.take (min n L.length) = L.take n := by
  rcases Nat.le_total n L.length with h | h
  · rw [Nat.min_eq_left h]
  · rw [Nat.min_eq_right h, List.take_of_length_le (Nat.le_refl _), List.take_of_length_le h]
theorem drop_min (L : List Nat) (n : Nat) : L.drop (min n L.length) = L.drop n := by
  rcases Nat.le_total n L.length with h | h
  · rw [Nat.min_eq_left h]
  · rw [Nat.min_eq_right h, List.drop_of_length_le (Nat.le_refl _), List.drop_of_length_le h]
theorem tailJ_len_cut (left right : Nat) (hlr : left ≤ right) : ∀ Ls : List (List Nat), (tailJ (Ls.map (cutK left right))).length ≤ (tailJ Ls).length
  | [] => Nat.le_refl _
  | K :: Ls => by
    have := tailJ_len_cut left right hlr Ls
    simp only [List.map_cons, tailJ, List.length_cons, List.length_append, cutK, List.length_take, List.length_drop]
    omega
/-- Erasing the rows of lines. -/
theorem er_lines {base : List Nat} {G : List (List Chg)} {T : Tx} {K : Nat} {suf : List Nat} (left right : Nat) (hlr : left ≤ right) (hK : Keep base G T K) (hlen : T.cs.length ≤ 60000) :
    ∀ (Ls : List (List Nat)) (pre L : List Nat), T.cs = pre ++ (L ++ (tailJ Ls ++ suf)) → ∃ T', erF T (rowsZ left right pre L Ls) = (0, T') ∧ T'.cs = pre ++ (cutK left right L ++ (tailJ (Ls.map (cutK left right)) ++ suf)) ∧ Keep base G T' (K + 12 * (Ls.length + 1))
  | [], pre, L, he => by
    have h1 : pre.length + 1 + min right L.length ≤ T.cs.length + 1 := by rw [he]; simp; omega
    have hd := delE_wide hK.wide (x := pre.length + 1 + min left L.length) (y := pre.length + 1 + min right L.length) (by omega) (by omega) h1
    refine ⟨takeT T (pre.length + 1 + min left L.length) (pre.length + 1 + min right L.length), ?_, ?_, (hK.take _ _ (by omega) (by omega) h1 hlen).mono (by simp)⟩
    · show (if (0 : Int) = 0 then (delE T ((pre.length + 1 + min left L.length : Nat) : Int) ((pre.length + 1 + min right L.length : Nat) : Int), if delE T ((pre.length + 1 + min left L.length : Nat) : Int) ((pre.length + 1 + min right L.length : Nat) : Int) = 0 then takeT T ((pre.length + 1 + min left L.length : Nat) : Int).toNat ((pre.length + 1 + min right L.length : Nat) : Int).toNat else T) else (0, T)) = _
      rw [if_pos rfl, hd, if_pos rfl, Int.toNat_natCast, Int.toNat_natCast]
    · rw [takeT_cs, he, delC_zip _ _ _ (by omega) (by omega), take_min, drop_min]; rfl
  | M :: Ls, pre, L, he => by
    obtain ⟨T1, g1, g2, g3⟩ := er_lines (suf := suf) left right hlr hK hlen Ls (pre ++ (L ++ [10])) M (by rw [he]; simp [tailJ])
    have he1 : T1.cs = pre ++ (L ++ (tailJ ((M :: Ls).map (cutK left right)) ++ suf)) := by rw [g2]; simp [tailJ]
    have hl1 : T1.cs.length ≤ 60000 := by
      have := tailJ_len_cut left right hlr (M :: Ls)
      rw [he] at hlen; rw [he1]
      simp only [List.length_append] at hlen ⊢; omega
    have h1 : pre.length + 1 + min right L.length ≤ T1.cs.length + 1 := by rw [he1]; simp only [List.length_append]; omega
    have hd := delE_wide g3.wide (x := pre.length + 1 + min left L.length) (y := pre.length + 1 + min right L.length) (by omega) (by omega) h1
    refine ⟨takeT T1 (pre.length + 1 + min left L.length) (pre.length + 1 + min right L.length), ?_, ?_, (g3.take _ _ (by omega) (by omega) h1 hl1).mono (by simp; omega)⟩
    · show (if (erF T (rowsZ left right (pre ++ (L ++ [10])) M Ls)).1 = 0 then (delE (erF T (rowsZ left right (pre ++ (L ++ [10])) M Ls)).2 ((pre.length + 1 + min left L.length : Nat) : Int) ((pre.length + 1 + min right L.length : Nat) : Int), if delE (erF T (rowsZ left right (pre ++ (L ++ [10])) M Ls)).2 ((pre.length + 1 + min left L.length : Nat) : Int) ((pre.length + 1 + min right L.length : Nat) : Int) = 0 then takeT (erF T (rowsZ left right (pre ++ (L ++ [10])) M Ls)).2 ((pre.length + 1 + min left L.length : Nat) : Int).toNat ((pre.length + 1 + min right L.length : Nat) : Int).toNat else (erF T (rowsZ left right (pre ++ (L ++ [10])) M Ls)).2) else erF T (rowsZ left right (pre ++ (L ++ [10])) M Ls)) = _
      rw [g1]
      dsimp only
      rw [if_pos rfl, hd, if_pos rfl, Int.toNat_natCast, Int.toNat_natCast]
    · rw [takeT_cs, he1, delC_zip _ _ _ (by omega) (by omega), take_min, drop_min]; rfl
/-- What a row of the rectangle holds: the line's part, spaces behind it. -/
def midK (left right : Nat) (K : List Nat) : List Nat := (K.take right).drop left ++ List.replicate (right - left - (min right K.length - min left K.length)) 32
/-- The rows' texts. -/
def RowsT (left right : Nat) : List ByteArray → List (List Nat) → Prop
  | [], [] => True
  | s :: ss, K :: Ks => (chrs s = midK left right K ∧ (charsD s.data.toList).isSome = true) ∧ RowsT left right ss Ks
  | _, _ => False
/-- A line behind pasting. -/
def padK (left right : Nat) (K : List Nat) : List Nat := K.take left ++ List.replicate (left - K.length) 32 ++ midK left right K ++ K.drop right
theorem midK_len (left right : Nat) (hlr : left ≤ right) (K : List Nat) : (midK left right K).length = right - left := by
  unfold midK; simp only [List.length_append, List.length_drop, List.length_take, List.length_replicate]; omega
/-- Pasting gives the line back, but for spaces behind it. -/
theorem padK_is (left right : Nat) (hlr : left ≤ right) (K : List Nat) : ∃ k, k ≤ right ∧ padK left right K = K ++ List.replicate k 32 := by
  unfold padK midK
  rcases Nat.le_total K.length left with h | h
  · refine ⟨(left - K.length) + (right - left), by omega, ?_⟩
    rw [List.take_of_length_le h, List.take_of_length_le (by omega), List.drop_of_length_le h, List.drop_of_length_le (by omega), List.nil_append, List.append_nil, List.append_assoc, List.append_cancel_left_eq, List.replicate_append_replicate]
    congr 1; omega
  · rw [Nat.sub_eq_zero_of_le h, List.replicate_zero, List.append_nil]
    rcases Nat.le_total K.length right with g | g
    · refine ⟨right - K.length, by omega, ?_⟩
      rw [List.take_of_length_le g, List.drop_of_length_le g, List.append_nil, ← List.append_assoc, List.take_append_drop]
      congr 2; omega
    · refine ⟨0, by omega, ?_⟩
      rw [show right - left - (min right K.length - min left K.length) = 0 by omega, List.replicate_zero, List.append_nil, List.append_nil, ← List.take_append_drop right K]
      congr 1
      · rw [List.take_append_drop]
        have e : K.take left = (K.take right).take left := by rw [List.take_take, Nat.min_eq_left hlr]
        rw [e, List.take_append_drop]
      · rw [List.take_append_drop]
theorem chrs_sp (n : Nat) : chrs (repB 32 n) = List.replicate n 32 ∧ (charsD (repB 32 n).data.toList).isSome = true := by
  rw [show repB 32 n = encS (List.replicate n 32) from (encS_ascii 32 n (by omega)).symm]
  exact chrs_encS fun c hc => by rw [(List.mem_replicate.1 hc).2]; unfold isN; omega
theorem putX_ok {T : Tx} (h : Wide T) {a : Nat} {s : ByteArray} (h1 : 1 ≤ a) (ha : a ≤ T.cs.length + 1) (hv : (charsD s.data.toList).isSome = true) (hl : T.cs.length + (chrs s).length ≤ 65536) : putEr T a s = 0 ∧ putX T a s = putT T a (chrs s) false := by
  have := putEr_wide h h1 ha hv hl
  refine ⟨this, ?_⟩
  unfold putX; rw [if_pos this]
theorem cutK_len (left right : Nat) (K : List Nat) : (cutK left right K).length = min left K.length + (K.length - right) := by unfold cutK; simp
theorem cutK_min (left right : Nat) (hlr : left ≤ right) (K : List Nat) : min left (cutK left right K).length = min left K.length := by rw [cutK_len]; omega
theorem cutK_mem {left right : Nat} {K : List Nat} {c : Nat} (h : c ∈ cutK left right K) : c ∈ K := by
  unfold cutK at h
  rcases List.mem_append.1 h with h | h
  · exact List.mem_of_mem_take h
  · exact List.mem_of_mem_drop h
theorem midK_mem {left right : Nat} {K : List Nat} {c : Nat} (h : c ∈ midK left right K) : c ∈ K ∨ c = 32 := by
  unfold midK at h
  rcases List.mem_append.1 h with h | h
  · exact .inl (List.mem_of_mem_take (List.mem_of_mem_drop h))
  · exact .inr (List.mem_replicate.1 h).2
theorem padK_len (left right : Nat) (hlr : left ≤ right) (K : List Nat) : (padK left right K).length ≤ K.length + right ∧ left ≤ (padK left right K).length ∧ (padK left right K).length = (cutK left right K).length + (left - K.length) + (right - left) := by
  obtain ⟨k, hk, e⟩ := padK_is left right hlr K
  refine ⟨by rw [e]; simp; omega, ?_, ?_⟩
  · unfold padK; simp only [List.length_append, List.length_take, List.length_replicate]; omega
  · unfold padK cutK; rw [List.length_append, List.length_append, midK_len _ _ hlr]; simp only [List.length_append, List.length_take, List.length_replicate, List.length_drop]; omega
section
variable {base : List Nat} {G : List (List Chg)} {T : Tx} {K0 : Nat} {pre suf : List Nat}
/-- A row pasted in its line. -/
theorem paste1_zip (left right tab : Nat) (hlr : left ≤ right) (hK : Keep base G T K0) (K : List Nat) (hz : Zip T.cs pre (cutK left right K) suf) (hp : ∀ c ∈ K, pch c) (c : Nat) (hc : c ≤ (cutK left right K).length) (s : ByteArray) (hs : chrs s = midK left right K) (hv : (charsD s.data.toList).isSome = true) (hn : ∀ c ∈ midK left right K, isN c) (hlen : T.cs.length + right ≤ 60000) :
    ∃ T', paste1 tab left T (pre.length + 1 + c) s = (0, T', pre.length + 1 + left) ∧ T'.cs = pre ++ (padK left right K ++ suf) ∧ Keep base G T' (K0 + 2 * right + 24) := by
  have hw := hK.wide
  have hq := hz.seek tab (fun c h => hp c (cutK_mem h)) left
  have hcol := hz.col tab (fun c h => hp c (cutK_mem h)) (min left (cutK left right K).length) (by omega)
  have hml := midK_len left right hlr K
  have hcl := hz.len
  have hck := cutK_len left right K
  have hmn := cutK_min left right hlr K
  rw [hmn] at hq hcol
  unfold paste1
  rw [hw.lo, hw.hi, hz.b c hc, hz.e c hc, hq]
  dsimp only
  rw [hcol]
  by_cases h : K.length < left
  · have hm : min left K.length = K.length := by omega
    rw [hm, if_pos h]
    obtain ⟨hsp, hsv⟩ := chrs_sp (left - K.length)
    obtain ⟨e1, e2⟩ := putX_ok hw (a := pre.length + 1 + K.length) (s := repB 32 (left - K.length)) (by omega) (by omega) hsv (by rw [hsp, List.length_replicate]; omega)
    rw [if_pos e1, e2, hsp, show pre.length + 1 + K.length + (left - K.length) = pre.length + 1 + left by omega]
    have hcut : cutK left right K = K := by unfold cutK; rw [List.take_of_length_le (by omega), List.drop_of_length_le (by omega), List.append_nil]
    have hK1 := hK.put (pre.length + 1 + K.length) (List.replicate (left - K.length) 32) (by omega) (by omega) (fun c hc => by rw [(List.mem_replicate.1 hc).2]; unfold isN; omega)
    have hc1 : (putT T (pre.length + 1 + K.length) (List.replicate (left - K.length) 32) false).cs = pre ++ ((K ++ List.replicate (left - K.length) 32) ++ suf) := by
      rw [putT_cs, hz.eq, hcut, insC_zip _ _ _ _ (Nat.le_refl _), List.take_of_length_le (Nat.le_refl _), List.drop_of_length_le (Nat.le_refl _), List.append_nil]
    have hl1 : (putT T (pre.length + 1 + K.length) (List.replicate (left - K.length) 32) false).cs.length = T.cs.length + (left - K.length) := by rw [putT_cs, insC_len, List.length_replicate]
    generalize putT T (pre.length + 1 + K.length) (List.replicate (left - K.length) 32) false = T1 at *
    obtain ⟨e3, e4⟩ := putX_ok hK1.wide (a := pre.length + 1 + left) (s := s) (by omega) (by omega) hv (by rw [hs, hml]; omega)
    rw [e3, e4, hs]
    refine ⟨_, rfl, ?_, (hK1.put _ _ (by omega) (by omega) hn).mono (by rw [hml, List.length_replicate]; omega)⟩
    rw [putT_cs, hc1, insC_zip _ _ _ _ (by simp; omega)]
    rw [List.take_of_length_le (by simp; omega), List.drop_of_length_le (by simp; omega)]
    unfold padK
    rw [List.take_of_length_le (by omega : K.length ≤ left), List.drop_of_length_le (by omega : K.length ≤ right)]
  · have hm : min left K.length = left := by omega
    rw [hm, if_neg (by omega)]
    obtain ⟨e1, e2⟩ := putX_ok hw (a := pre.length + 1 + left) (s := s) (by omega) (by omega) hv (by rw [hs, hml]; omega)
    rw [e1, e2, hs]
    refine ⟨_, rfl, ?_, (hK.put _ _ (by omega) (by omega) hn).mono (by rw [hml]; omega)⟩
    rw [putT_cs, hz.eq, insC_zip _ _ _ _ (by omega)]
    unfold padK cutK
    rw [List.take_append_of_le_length (by simp; omega), List.take_take, Nat.min_self, List.drop_append_of_le_length (by simp; omega), List.drop_take_self, Nat.sub_eq_zero_of_le (by omega), List.replicate_zero]
    simp
/-- The rows behind the first one. -/
theorem pasteR_lines (left right tab : Nat) (hlr : left ≤ right) : ∀ (Ls : List (List Nat)) (T : Tx) (K0 : Nat) (pre P : List Nat) (c : Nat) (ss : List ByteArray), Keep base G T K0 → T.cs = pre ++ (P ++ (tailJ (Ls.map (cutK left right)) ++ suf)) →
    (∀ c ∈ P, c ≠ 10) → (pre = [] ∨ ∃ q, pre = q ++ [10]) → (suf = [] ∨ ∃ q, suf = 10 :: q) → (∀ K ∈ Ls, ∀ c ∈ K, pch c ∧ c ≠ 10 ∧ isN c) → c ≤ P.length →
    RowsT left right ss Ls → T.cs.length + Ls.length * right + right ≤ 60000 →
    ∃ T' a', pasteR tab left (0, T, pre.length + 1 + c) ss = (0, T', a') ∧ T'.cs = pre ++ (P ++ (tailJ (Ls.map (padK left right)) ++ suf)) ∧ Keep base G T' (K0 + (2 * right + 24) * Ls.length)
  | [], T, K0, pre, P, c, ss, hK, he, hP, hpr, hsf, hLs, hc, hss, hlen => by
    obtain rfl : ss = [] := by
      cases ss with
      | nil => rfl
      | cons s ss => exact hss.elim
    exact ⟨T, _, rfl, he, hK⟩
  | K :: Ls, T, K0, pre, P, c, ss, hK, he, hP, hpr, hsf, hLs, hc, hss, hlen => by
    cases ss with
    | nil => exact hss.elim
    | cons s ss =>
      obtain ⟨h1, h2⟩ := hss
      have hz : Zip T.cs pre P (10 :: (cutK left right K ++ (tailJ (Ls.map (cutK left right)) ++ suf))) := ⟨by rw [he]; simp [tailJ], hP, hpr, .inr ⟨_, rfl⟩⟩
      have hnx := hz.next (M := K) c hc
      have hK1 := hLs K (List.mem_cons_self ..)
      have hz2 : Zip T.cs (pre ++ (P ++ [10])) (cutK left right K) (tailJ (Ls.map (cutK left right)) ++ suf) := ⟨by rw [he]; simp [tailJ], fun c hc => (hK1 c (cutK_mem hc)).2.1, .inr ⟨pre ++ P, by simp⟩, by
        cases Ls with
        | nil => exact hsf
        | cons M Ls => exact .inr ⟨_, rfl⟩⟩
      have hlm : T.cs.length + (Ls.length * right + right) + right ≤ 60000 := by simpa [Nat.succ_mul] using hlen
      obtain ⟨T1, g1, g2, g3⟩ := paste1_zip left right tab hlr hK K hz2 (fun c hc => (hK1 c hc).1) 0 (Nat.zero_le _) s h1.1 h1.2 (fun c hc => (midK_mem hc).elim (fun h => (hK1 c h).2.2) (fun h => by rw [h]; unfold isN; omega)) (by omega)
      have hpl := padK_len left right hlr K
      have hl1 : T1.cs.length ≤ T.cs.length + right := by
        rw [g2, hz2.len]
        simp only [List.length_append]
        have := cutK_len left right K
        omega
      obtain ⟨k, hk, hpk⟩ := padK_is left right hlr K
      obtain ⟨T2, a2, f1, f2, f3⟩ := pasteR_lines left right tab hlr Ls T1 _ (pre ++ (P ++ [10])) (padK left right K) left ss g3 g2 (fun c hc => by
          rw [hpk] at hc
          rcases List.mem_append.1 hc with h | h
          · exact (hK1 c h).2.1
          · rw [(List.mem_replicate.1 h).2]; omega) (.inr ⟨pre ++ P, by simp⟩) hsf (fun K hK => hLs K (List.mem_cons_of_mem _ hK)) hpl.2.1 h2 (by omega)
      refine ⟨T2, a2, ?_, ?_, f3.mono (by simp only [List.length_cons, Nat.mul_succ]; omega)⟩
      · have e1 : paste2 tab left T (pre.length + 1 + c) s = (0, T1, (pre ++ (P ++ [10])).length + 1 + left) := by
          have e0 : pasteN T (pre.length + 1 + c) = (0, T, (pre ++ (P ++ [10])).length + 1 + 0) := by
            unfold pasteN
            rw [hK.wide.lo, hK.wide.hi, hnx]
            dsimp only
            rw [if_neg (by omega)]
            congr 2
            simp; omega
          unfold paste2
          rw [e0]
          dsimp only
          rw [if_pos rfl, g1]
        show (if (0 : Int) = 0 then pasteR tab left (paste2 tab left T (pre.length + 1 + c) s) ss else _) = _
        rw [if_pos rfl, e1, f1]
      · rw [f2]; simp [tailJ]
/-- Rows pasted where they were cut. -/
theorem paste_lines (left right tab : Nat) (hlr : left ≤ right) (Ls : List (List Nat)) (T : Tx) (K0 : Nat) (pre L : List Nat) (ss : List ByteArray) (hK : Keep base G T K0) (he : T.cs = pre ++ (cutK left right L ++ (tailJ (Ls.map (cutK left right)) ++ suf)))
    (hpr : pre = [] ∨ ∃ q, pre = q ++ [10]) (hsf : suf = [] ∨ ∃ q, suf = 10 :: q) (hLs : ∀ K ∈ L :: Ls, ∀ c ∈ K, pch c ∧ c ≠ 10 ∧ isN c) (hL : left ≤ L.length)
    (hss : RowsT left right ss (L :: Ls)) (hlen : T.cs.length + Ls.length * right + 2 * right ≤ 60000) :
    ∃ T' a', pasteF tab left T (pre.length + 1 + left) ss = (0, T', a') ∧ T'.cs = pre ++ (padK left right L ++ (tailJ (Ls.map (padK left right)) ++ suf)) ∧ Keep base G T' (K0 + (2 * right + 24) * (Ls.length + 1)) := by
  cases ss with
  | nil => exact hss.elim
  | cons s ss =>
    obtain ⟨h1, h2⟩ := hss
    have hK1 := hLs L (List.mem_cons_self ..)
    have hz2 : Zip T.cs pre (cutK left right L) (tailJ (Ls.map (cutK left right)) ++ suf) := ⟨he, fun c hc => (hK1 c (cutK_mem hc)).2.1, hpr, by
      cases Ls with
      | nil => exact hsf
      | cons M Ls => exact .inr ⟨_, rfl⟩⟩
    have hcl := cutK_len left right L
    obtain ⟨T1, g1, g2, g3⟩ := paste1_zip left right tab hlr hK L hz2 (fun c hc => (hK1 c hc).1) left (by omega) s h1.1 h1.2 (fun c hc => (midK_mem hc).elim (fun h => (hK1 c h).2.2) (fun h => by rw [h]; unfold isN; omega)) (by omega)
    have hpl := padK_len left right hlr L
    have hl1 : T1.cs.length ≤ T.cs.length + right := by
      rw [g2, hz2.len]
      simp only [List.length_append]
      omega
    obtain ⟨k, hk, hpk⟩ := padK_is left right hlr L
    obtain ⟨T2, a2, f1, f2, f3⟩ := pasteR_lines left right tab hlr Ls T1 _ pre (padK left right L) left ss g3 g2 (fun c hc => by
        rw [hpk] at hc
        rcases List.mem_append.1 hc with h | h
        · exact (hK1 c h).2.1
        · rw [(List.mem_replicate.1 h).2]; omega) hpr hsf (fun K hK => hLs K (List.mem_cons_of_mem _ hK)) hpl.2.1 h2 (by omega)
    refine ⟨T2, a2, ?_, f2, f3.mono (by rw [Nat.mul_succ]; omega)⟩
    show pasteR tab left (paste1 tab left T (pre.length + 1 + left) s) ss = _
    rw [g1, f1]
end
end Go.Proofs.YtnbccoelbfgmgaaGreatDoor
