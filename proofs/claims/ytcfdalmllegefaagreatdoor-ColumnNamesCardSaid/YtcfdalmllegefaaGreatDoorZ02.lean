import Derived.Test.YtcfdalmllegefaaGreatDoorProg
import Derived.Lib.ValidLaws
/- Lines and columns of a text: plain laws. -/
namespace Go.Proofs.YtcfdalmllegefaaGreatDoor
set_option linter.unusedVariables false
set_option linter.unusedSimpArgs false
/-- The character at a position, the first position being 1. -/
def chr (cs : List Nat) (i : Nat) : Nat := cs.getD (i - 1) 0
/-- Where the line of a position begins: behind the last line feed before it, but not before lo. -/
def lineB (cs : List Nat) (lo : Nat) : Nat → Nat
  | 0 => lo
  | k + 1 => if k + 1 ≤ lo then lo else if chr cs k = 10 then k + 1 else lineB cs lo k
def lineEf (cs : List Nat) : Nat → Nat → Nat
  | 0, i => i
  | n + 1, i => if chr cs i = 10 then i else lineEf cs n (i + 1)
/-- Where the line of a position ends: at the first line feed from it on, but not behind hi. -/
def lineE (cs : List Nat) (hi i : Nat) : Nat := lineEf cs (hi - i) i
section
variable {cs : List Nat} {lo hi : Nat}
theorem lineB_ge : ∀ i, lo ≤ lineB cs lo i
  | 0 => Nat.le_refl _
  | k + 1 => by
    unfold lineB
    split
    · omega
    · split
      · omega
      · exact lineB_ge k
theorem lineB_le : ∀ i, lo ≤ i → lineB cs lo i ≤ i
  | 0, h => by unfold lineB; omega
  | k + 1, h => by
    unfold lineB
    split
    · omega
    · split
      · omega
      · have := lineB_le k (by omega); omega
theorem lineB_no : ∀ i j, lineB cs lo i ≤ j → j < i → chr cs j ≠ 10
  | 0, j, h, h2 => by omega
  | k + 1, j, h, h2 => by
    unfold lineB at h
    split at h
    · omega
    · split at h
      · omega
      · rename_i hne
        by_cases hj : j = k
        · rw [hj]; exact hne
        · exact lineB_no k j h (by omega)
theorem lineB_at : ∀ i, lineB cs lo i = lo ∨ lo < lineB cs lo i ∧ chr cs (lineB cs lo i - 1) = 10
  | 0 => .inl rfl
  | k + 1 => by
    unfold lineB
    split
    · exact .inl rfl
    · split
      · rename_i h1 h2
        exact .inr ⟨by omega, by rw [show k + 1 - 1 = k by omega]; exact h2⟩
      · exact lineB_at k
/-- The beginning is determined by what it is. -/
theorem lineB_eq : ∀ (i b : Nat), lo ≤ b → b ≤ i → (∀ j, b ≤ j → j < i → chr cs j ≠ 10) → (b = lo ∨ lo < b ∧ chr cs (b - 1) = 10) → lineB cs lo i = b
  | 0, b, h1, h2, _, _ => by unfold lineB; omega
  | k + 1, b, h1, h2, h3, h4 => by
    unfold lineB
    split
    · omega
    · split
      · rename_i h5 h6
        by_cases hb : b = k + 1
        · exact hb.symm
        · exact absurd h6 (h3 k (by omega) (by omega))
      · rename_i h5 h6
        by_cases hb : b = k + 1
        · subst hb
          rcases h4 with h4 | ⟨_, h4⟩
          · omega
          · rw [show k + 1 - 1 = k by omega] at h4; exact absurd h4 h6
        · exact lineB_eq k b h1 (by omega) (fun j hj hk => h3 j hj (by omega)) h4
theorem lineEf_ge : ∀ n i, i ≤ lineEf cs n i ∧ lineEf cs n i ≤ i + n ∧ (∀ j, i ≤ j → j < lineEf cs n i → chr cs j ≠ 10) ∧ (lineEf cs n i = i + n ∨ chr cs (lineEf cs n i) = 10)
  | 0, i => ⟨Nat.le_refl _, Nat.le_refl _, fun j h h2 => by unfold lineEf at h2; omega, .inl rfl⟩
  | n + 1, i => by
    unfold lineEf
    split
    · rename_i h
      exact ⟨Nat.le_refl _, by omega, fun j h h2 => by omega, .inr h⟩
    · rename_i hne
      obtain ⟨h1, h2, h3, h4⟩ := lineEf_ge n (i + 1)
      refine ⟨by omega, by omega, fun j hj hk => ?_, ?_⟩
      · by_cases e : j = i
        · rw [e]; exact hne
        · exact h3 j (by omega) hk
      · rcases h4 with h4 | h4
        · exact .inl (by omega)
        · exact .inr h4
theorem lineE_ge (i : Nat) : i ≤ lineE cs hi i := (lineEf_ge _ _).1
theorem lineE_le (i : Nat) (h : i ≤ hi) : lineE cs hi i ≤ hi := by have := (lineEf_ge (cs := cs) (hi - i) i).2.1; unfold lineE; omega
theorem lineE_no (i j : Nat) (h : i ≤ j) (h2 : j < lineE cs hi i) : chr cs j ≠ 10 := (lineEf_ge _ _).2.2.1 j h h2
theorem lineE_at (i : Nat) (h : i ≤ hi) : lineE cs hi i = hi ∨ lineE cs hi i < hi ∧ chr cs (lineE cs hi i) = 10 := by
  have h1 := (lineEf_ge (cs := cs) (hi - i) i).2.2.2
  have h2 := lineE_le (cs := cs) i h
  rcases h1 with h1 | h1
  · left; unfold lineE; omega
  · by_cases e : lineE cs hi i = hi
    · exact .inl e
    · exact .inr ⟨by omega, h1⟩
/-- Between the ends of a line each position has the same beginning. -/
theorem lineB_same (i k : Nat) (h1 : lo ≤ i) (h2 : lineB cs lo i ≤ k) (h3 : k ≤ lineE cs hi i) : lineB cs lo k = lineB cs lo i :=
  lineB_eq k _ (lineB_ge i) h2 (fun j hj hk => by
    by_cases e : j < i
    · exact lineB_no i j hj e
    · exact lineE_no (hi := hi) i j (by omega) (by omega)) (lineB_at i)
/-! ### Columns -/
/-- The columns of a character; how a column goes on behind a character. -/
def afterN (wid : Nat → Nat) (tab col c : Nat) : Nat := if c = 9 then col + tab - col % tab else col + wid c
def colF (wid : Nat → Nat) (cs : List Nat) (tab : Nat) : Nat → Nat → Nat → Nat
  | 0, _, col => col
  | n + 1, i, col => colF wid cs tab n (i + 1) (afterN wid tab col (chr cs i))
/-- The column of position i in the line that begins at b. -/
def colN (wid : Nat → Nat) (cs : List Nat) (tab b i : Nat) : Nat := colF wid cs tab (i - b) b 0
variable {wid : Nat → Nat} {tab : Nat}
theorem colF_snoc : ∀ n i col, colF wid cs tab (n + 1) i col = afterN wid tab (colF wid cs tab n i col) (chr cs (i + n))
  | 0, i, col => rfl
  | n + 1, i, col => by
    rw [colF, colF_snoc n (i + 1) _, colF, show i + 1 + n = i + (n + 1) by omega]
theorem colN_self (b : Nat) : colN wid cs tab b b = 0 := by unfold colN; rw [Nat.sub_self]; rfl
theorem colN_succ (b i : Nat) (h : b ≤ i) : colN wid cs tab b (i + 1) = afterN wid tab (colN wid cs tab b i) (chr cs i) := by
  unfold colN
  rw [show i + 1 - b = (i - b) + 1 by omega, colF_snoc, show b + (i - b) = i by omega]
theorem afterN_ge (ht : 1 ≤ tab) (col c : Nat) : col ≤ afterN wid tab col c := by
  unfold afterN
  split
  · have := Nat.mod_lt col (show 0 < tab by omega); omega
  · omega
theorem colN_mono (ht : 1 ≤ tab) (b : Nat) : ∀ (k i : Nat), b ≤ i → colN wid cs tab b i ≤ colN wid cs tab b (i + k)
  | 0, i, h => Nat.le_refl _
  | k + 1, i, h => by
    have h1 := colN_mono ht b k i h
    rw [show i + (k + 1) = (i + k) + 1 by omega, colN_succ b (i + k) (by omega)]
    exact Nat.le_trans h1 (afterN_ge ht _ _)
theorem colN_le (ht : 1 ≤ tab) (b i j : Nat) (h : b ≤ i) (hij : i ≤ j) : colN wid cs tab b i ≤ colN wid cs tab b j := by
  have := colN_mono (wid := wid) (cs := cs) ht b (j - i) i h
  rwa [show i + (j - i) = j by omega] at this
theorem afterN_le (hw : ∀ c, wid c ≤ 2) (ht : tab ≤ 64) (col c : Nat) : afterN wid tab col c ≤ col + 64 := by
  unfold afterN
  split
  · omega
  · have := hw c; omega
theorem colN_bound (hw : ∀ c, wid c ≤ 2) (ht : tab ≤ 64) (b : Nat) : ∀ k, colN wid cs tab b (b + k) ≤ 64 * k
  | 0 => by rw [Nat.add_zero, colN_self]; omega
  | k + 1 => by
    have h1 := colN_bound hw ht b k
    rw [show b + (k + 1) = (b + k) + 1 by omega, colN_succ b (b + k) (by omega)]
    have := afterN_le hw ht (colN wid cs tab b (b + k)) (chr cs (b + k))
    omega
theorem colN_cap (hw : ∀ c, wid c ≤ 2) (ht : tab ≤ 64) (b i : Nat) (h : b ≤ i) : colN wid cs tab b i ≤ 64 * (i - b) := by
  have := colN_bound (cs := cs) hw ht b (i - b)
  rwa [show b + (i - b) = i by omega] at this
/-- The first position of a line at a column, or its end. -/
def seekF (wid : Nat → Nat) (cs : List Nat) (tab b : Nat) (col : Nat) : Nat → Nat → Nat
  | 0, i => i
  | n + 1, i => if colN wid cs tab b i < col then seekF wid cs tab b col n (i + 1) else i
def seekN (wid : Nat → Nat) (cs : List Nat) (tab b e col : Nat) : Nat := seekF wid cs tab b col (e - b) b
theorem seekF_is (col b : Nat) : ∀ n i, i ≤ seekF wid cs tab b col n i ∧ seekF wid cs tab b col n i ≤ i + n ∧ (∀ j, i ≤ j → j < seekF wid cs tab b col n i → colN wid cs tab b j < col) ∧
    (seekF wid cs tab b col n i = i + n ∨ col ≤ colN wid cs tab b (seekF wid cs tab b col n i))
  | 0, i => ⟨Nat.le_refl _, Nat.le_refl _, fun j h h2 => by unfold seekF at h2; omega, .inl rfl⟩
  | n + 1, i => by
    unfold seekF
    split
    · rename_i h
      obtain ⟨h1, h2, h3, h4⟩ := seekF_is col b n (i + 1)
      refine ⟨by omega, by omega, fun j hj hk => ?_, ?_⟩
      · by_cases e : j = i
        · rw [e]; exact h
        · exact h3 j (by omega) hk
      · rcases h4 with h4 | h4
        · exact .inl (by omega)
        · exact .inr h4
    · rename_i h
      exact ⟨Nat.le_refl _, by omega, fun j h h2 => by omega, .inr (by omega)⟩
theorem seekN_is (b e col : Nat) (h : b ≤ e) : b ≤ seekN wid cs tab b e col ∧ seekN wid cs tab b e col ≤ e ∧ (∀ j, b ≤ j → j < seekN wid cs tab b e col → colN wid cs tab b j < col) ∧
    (seekN wid cs tab b e col = e ∨ col ≤ colN wid cs tab b (seekN wid cs tab b e col)) := by
  obtain ⟨h1, h2, h3, h4⟩ := seekF_is (wid := wid) (cs := cs) (tab := tab) col b (e - b) b
  unfold seekN
  exact ⟨h1, by omega, h3, by rcases h4 with h4 | h4; exact .inl (by omega); exact .inr h4⟩
/-- It is determined by what it is. -/
theorem seekN_eq (b e col i : Nat) (h : b ≤ e) (h1 : b ≤ i) (h2 : i ≤ e) (h3 : ∀ j, b ≤ j → j < i → colN wid cs tab b j < col) (h4 : i = e ∨ col ≤ colN wid cs tab b i) : seekN wid cs tab b e col = i := by
  obtain ⟨g1, g2, g3, g4⟩ := seekN_is (wid := wid) (cs := cs) (tab := tab) b e col h
  rcases Nat.lt_trichotomy (seekN wid cs tab b e col) i with hl | he | hg
  · have := h3 _ g1 hl
    rcases g4 with g4 | g4 <;> omega
  · exact he
  · have := g3 i h1 hg
    rcases h4 with h4 | h4 <;> omega
/-- Seeking a position's own column finds it no later, and at that column. -/
theorem seek_own (ht : 1 ≤ tab) (b e i : Nat) (h1 : b ≤ i) (h2 : i ≤ e) : seekN wid cs tab b e (colN wid cs tab b i) ≤ i ∧ colN wid cs tab b (seekN wid cs tab b e (colN wid cs tab b i)) = colN wid cs tab b i := by
  obtain ⟨g1, g2, g3, g4⟩ := seekN_is (wid := wid) (cs := cs) (tab := tab) b e (colN wid cs tab b i) (by omega)
  have hle : seekN wid cs tab b e (colN wid cs tab b i) ≤ i := by
    rcases Nat.lt_or_ge i (seekN wid cs tab b e (colN wid cs tab b i)) with h | h
    · have := g3 i h1 h; omega
    · exact h
  refine ⟨hle, ?_⟩
  have hm := colN_le (wid := wid) (cs := cs) ht b _ i g1 hle
  rcases g4 with g4 | g4
  · have : seekN wid cs tab b e (colN wid cs tab b i) = i := by omega
    rw [this]
  · omega
/-! ### Lines -/
def fwdN (cs : List Nat) (hi : Nat) : Nat → Nat → Nat × Nat
  | 0, i => (i, 0)
  | n + 1, i => if lineE cs hi i = hi then (hi, n + 1) else fwdN cs hi n (lineE cs hi i + 1)
def bwdN (cs : List Nat) (lo : Nat) : Nat → Nat → Nat × Nat
  | 0, i => (i, 0)
  | n + 1, i => if i = lo then (lo, n + 1) else bwdN cs lo n (lineB cs lo (i - 1))
/-- The line feeds in a range. -/
def nFeeds (cs : List Nat) : Nat → Nat → Nat
  | 0, _ => 0
  | n + 1, i => (if chr cs i = 10 then 1 else 0) + nFeeds cs n (i + 1)
def feedsIn (cs : List Nat) (a b : Nat) : Nat := nFeeds cs (b - a) a
theorem nFeeds_add : ∀ m n i, nFeeds cs (m + n) i = nFeeds cs m i + nFeeds cs n (i + m)
  | 0, n, i => by simp [nFeeds]
  | m + 1, n, i => by
    rw [show m + 1 + n = (m + n) + 1 by omega, nFeeds, nFeeds, nFeeds_add m n (i + 1), show i + 1 + m = i + (m + 1) by omega]
    omega
theorem feedsIn_self (a : Nat) : feedsIn cs a a = 0 := by unfold feedsIn; rw [Nat.sub_self]; rfl
theorem feedsIn_succ (a b : Nat) (h : a ≤ b) : feedsIn cs a (b + 1) = feedsIn cs a b + (if chr cs b = 10 then 1 else 0) := by
  unfold feedsIn
  rw [show b + 1 - a = (b - a) + 1 by omega, nFeeds_add, show a + (b - a) = b by omega]
  simp [nFeeds]
theorem feedsIn_add (a b c : Nat) (h : a ≤ b) (h2 : b ≤ c) : feedsIn cs a c = feedsIn cs a b + feedsIn cs b c := by
  unfold feedsIn
  rw [show c - a = (b - a) + (c - b) by omega, nFeeds_add, show a + (b - a) = b by omega]
theorem nFeeds_none : ∀ n i, (∀ j, i ≤ j → j < i + n → chr cs j ≠ 10) → nFeeds cs n i = 0
  | 0, i, h => rfl
  | n + 1, i, h => by
    rw [nFeeds, if_neg (h i (by omega) (by omega)), nFeeds_none n (i + 1) (fun j h1 h2 => h j (by omega) (by omega))]
theorem feedsIn_none (a b : Nat) (h : ∀ j, a ≤ j → j < b → chr cs j ≠ 10) : feedsIn cs a b = 0 := nFeeds_none _ _ (fun j h1 h2 => h j h1 (by omega))
theorem nFeeds_zero : ∀ n i, nFeeds cs n i = 0 → ∀ j, i ≤ j → j < i + n → chr cs j ≠ 10
  | 0, i, _, j, h1, h2 => by omega
  | n + 1, i, h, j, h1, h2 => by
    rw [nFeeds] at h
    have h3 : chr cs i ≠ 10 := fun e => by rw [if_pos e] at h; omega
    by_cases e : j = i
    · rw [e]; exact h3
    · exact nFeeds_zero n (i + 1) (by omega) j (by omega) (by omega)
theorem feedsIn_zero (a b : Nat) (h : feedsIn cs a b = 0) (j : Nat) (h1 : a ≤ j) (h2 : j < b) : chr cs j ≠ 10 := nFeeds_zero _ _ h j h1 (by omega)
/-- Moving forward. -/
theorem fwdN_is : ∀ (n i : Nat), i ≤ hi → (fwdN cs hi n i).2 ≤ n ∧ i ≤ (fwdN cs hi n i).1 ∧ (fwdN cs hi n i).1 ≤ hi ∧ feedsIn cs i (fwdN cs hi n i).1 = n - (fwdN cs hi n i).2 ∧
    (0 < (fwdN cs hi n i).2 → (fwdN cs hi n i).1 = hi) ∧ ((fwdN cs hi n i).2 = 0 → 0 < n → i < (fwdN cs hi n i).1 ∧ chr cs ((fwdN cs hi n i).1 - 1) = 10)
  | 0, i, h => ⟨Nat.le_refl _, Nat.le_refl _, h, feedsIn_self i, fun h => by simp [fwdN] at h, fun _ h => by omega⟩
  | n + 1, i, h => by
    have hg := lineE_ge (cs := cs) (hi := hi) i
    have hl := lineE_le (cs := cs) (hi := hi) i h
    have hz := feedsIn_none (cs := cs) i (lineE cs hi i) (fun j h1 h2 => lineE_no i j h1 h2)
    unfold fwdN
    split
    · rename_i he
      rw [he] at hz
      exact ⟨Nat.le_refl _, h, Nat.le_refl _, by rw [hz]; simp, fun _ => rfl, fun h => by simp at h⟩
    · rename_i he
      have hat := (lineE_at (cs := cs) (hi := hi) i h).resolve_left he
      obtain ⟨g1, g2, g3, g4, g5, g6⟩ := fwdN_is n (lineE cs hi i + 1) (by omega)
      have e1 : feedsIn cs i (lineE cs hi i + 1) = 1 := by rw [feedsIn_succ _ _ hg, hz, if_pos hat.2]
      refine ⟨by omega, by omega, g3, ?_, g5, fun h0 _ => ?_⟩
      · rw [feedsIn_add i (lineE cs hi i + 1) _ (by omega) g2, e1, g4]; omega
      · by_cases hn : 0 < n
        · have := g6 h0 hn
          exact ⟨by omega, this.2⟩
        · obtain rfl : n = 0 := by omega
          simp only [fwdN]
          exact ⟨by omega, by rw [Nat.add_sub_cancel]; exact hat.2⟩
/-- Moving back over as many lines as there are line feeds in between leads to the line's beginning. -/
theorem bwdN_back : ∀ (m a t : Nat), lo ≤ a → a ≤ t → feedsIn cs a t = m → bwdN cs lo m (lineB cs lo t) = (lineB cs lo a, 0)
  | 0, a, t, h1, h2, h3 => by
    have h := feedsIn_zero a t h3
    rw [bwdN, lineB_eq t (lineB cs lo a) (lineB_ge a) (Nat.le_trans (lineB_le a h1) h2) (fun j hj hk => ?_) (lineB_at a)]
    by_cases e : j < a
    · exact lineB_no a j hj e
    · exact h j (by omega) hk
  | m + 1, a, t, h1, h2, h3 => by
    -- the last line feed before t is at or behind a
    have hb := lineB_at (cs := cs) (lo := lo) t
    have hno := lineB_no (cs := cs) (lo := lo) t
    have hle := lineB_le (cs := cs) (lo := lo) t (by omega)
    have hgt : a < lineB cs lo t := by
      rcases Nat.lt_or_ge a (lineB cs lo t) with h | h
      · exact h
      · have := feedsIn_none (cs := cs) a t (fun j hj hk => hno j (by omega) hk); omega
    rcases hb with hb | ⟨hb1, hb2⟩
    · omega
    · have hz := feedsIn_none (cs := cs) (lineB cs lo t) t (fun j hj hk => hno j hj hk)
      have e1 := feedsIn_add (cs := cs) a (lineB cs lo t) t (by omega) hle
      have e2 := feedsIn_succ (cs := cs) a (lineB cs lo t - 1) (by omega)
      rw [show lineB cs lo t - 1 + 1 = lineB cs lo t by omega, if_pos hb2] at e2
      rw [bwdN, if_neg (by omega)]
      exact bwdN_back m a (lineB cs lo t - 1) h1 (by omega) (by omega)
theorem lineB_lo (i : Nat) (h : i ≤ lo) : lineB cs lo i = lo := by
  cases i with
  | zero => rfl
  | succ k => unfold lineB; rw [if_pos (by omega)]
theorem lineB_idem (i : Nat) (h : lo ≤ i) : lineB cs lo (lineB cs lo i) = lineB cs lo i :=
  lineB_eq _ _ (lineB_ge i) (Nat.le_refl _) (fun j h1 h2 => by omega) (lineB_at i)
end
end Go.Proofs.YtcfdalmllegefaaGreatDoor
/- ColumnFills, in plain Lean: words, rows, filling; filling twice changes nothing more. -/
namespace Go.Proofs.YtcfdalmllegefaaGreatDoor
set_option linter.unusedVariables false
set_option linter.unusedSimpArgs false
/-- A blank of parts. -/
def isB (c : Nat) : Bool := c == 32 || c == 9 || c == 10
def wordsA : List Nat → List Nat → List (List Nat)
  | cur, [] => if cur = [] then [] else [cur]
  | cur, c :: cs => if isB c then (if cur = [] then wordsA [] cs else cur :: wordsA [] cs) else wordsA (cur ++ [c]) cs
def wordsC (cs : List Nat) : List (List Nat) := wordsA [] cs
def rowsA : List Nat → List Nat → List (List Nat)
  | cur, [] => if cur = [] then [] else [cur]
  | cur, c :: cs => if c = 10 then (cur ++ [10]) :: rowsA [] cs else rowsA (cur ++ [c]) cs
def rowsC (cs : List Nat) : List (List Nat) := rowsA [] cs
def isT (c : Nat) : Bool := c == 32 || c == 9
def leadC (cs : List Nat) : List Nat := cs.takeWhile isT
def endNL (cs : List Nat) : List Nat := if cs.getLast? = some 10 then [10] else []
def widthC (tab : Nat) (wid : Nat → Nat) (col : Nat) (cs : List Nat) : Nat := cs.foldl (afterN wid tab) col
/-- The words behind the first one. -/
def fillF (wid : Nat → Nat) (lead : List Nat) (most tab : Nat) : Nat → List (List Nat) → List Nat
  | _, [] => []
  | col, w :: ws => if widthC tab wid (col + 1) w ≤ most then 32 :: w ++ fillF wid lead most tab (widthC tab wid (col + 1) w) ws else 10 :: lead ++ w ++ fillF wid lead most tab (widthC tab wid (widthC tab wid 0 lead) w) ws
def fillW (wid : Nat → Nat) (lead : List Nat) (most tab : Nat) : List (List Nat) → List Nat
  | [] => []
  | w :: ws => lead ++ w ++ fillF wid lead most tab (widthC tab wid (widthC tab wid 0 lead) w) ws
def fillC (wid : Nat → Nat) (most tab : Nat) (cs : List Nat) : List Nat := fillW wid (leadC cs) most tab (wordsC cs) ++ endNL cs
/-! ### words -/
def isWd (w : List Nat) : Prop := w ≠ [] ∧ ∀ c ∈ w, isB c = false
theorem wordsA_word (w : List Nat) (h : ∀ c ∈ w, isB c = false) (cs : List Nat) : ∀ cur, wordsA cur (w ++ cs) = wordsA (cur ++ w) cs := by
  induction w with
  | nil => intro cur; simp
  | cons c w ih =>
    intro cur
    rw [List.cons_append, wordsA, h c List.mem_cons_self, if_neg (by simp), ih (fun x hx => h x (List.mem_cons_of_mem _ hx))]
    simp
theorem wordsC_blanks (b : List Nat) (h : ∀ c ∈ b, isB c = true) (cs : List Nat) : wordsC (b ++ cs) = wordsC cs := by
  induction b with
  | nil => rfl
  | cons c b ih =>
    unfold wordsC at ih ⊢
    rw [List.cons_append, wordsA, h c List.mem_cons_self, if_pos rfl, if_pos rfl, ih (fun x hx => h x (List.mem_cons_of_mem _ hx))]
/-- A word, and what follows it. -/
theorem wordsC_word {w : List Nat} (h : isWd w) : ∀ {cs : List Nat}, (cs = [] ∨ ∃ c r, cs = c :: r ∧ isB c = true) → wordsC (w ++ cs) = w :: wordsC cs := by
  intro cs hc
  unfold wordsC
  rw [wordsA_word w h.2, List.nil_append]
  rcases hc with rfl | ⟨c, r, rfl, hb⟩
  · unfold wordsA; rw [if_neg h.1, if_pos rfl]
  · rw [wordsA, if_pos hb, if_neg h.1]
    rw [wordsA, if_pos hb, if_pos rfl]
theorem wordsA_wd : ∀ (cs cur : List Nat), (∀ c ∈ cur, isB c = false) → ∀ w ∈ wordsA cur cs, isWd w
  | [], cur, h, w, hw => by
    unfold wordsA at hw
    split at hw
    · simp at hw
    · rename_i hne; simp at hw; subst hw; exact ⟨hne, h⟩
  | c :: cs, cur, h, w, hw => by
    unfold wordsA at hw
    split at hw
    · split at hw
      · exact wordsA_wd cs [] (by simp) w hw
      · rename_i hne
        rw [List.mem_cons] at hw
        rcases hw with rfl | hw
        · exact ⟨hne, h⟩
        · exact wordsA_wd cs [] (by simp) w hw
    · rename_i hb
      refine wordsA_wd cs _ (fun x hx => ?_) w hw
      rw [List.mem_append, List.mem_singleton] at hx
      rcases hx with hx | rfl
      · exact h x hx
      · simpa using hb
theorem wordsC_wd (cs : List Nat) : ∀ w ∈ wordsC cs, isWd w := wordsA_wd cs [] (by simp)
/-! ### filling a paragraph twice -/
section
variable {wid : Nat → Nat} {most tab : Nat} {lead : List Nat}
theorem isT_B {c : Nat} (h : isT c = true) : isB c = true := by unfold isT at h; unfold isB; simp at h ⊢; omega
theorem fillF_words (hl : ∀ c ∈ lead, isT c = true) : ∀ (ws : List (List Nat)) (col : Nat), (∀ w ∈ ws, isWd w) → ∀ (e : List Nat), (∀ c ∈ e, isB c = true) →
    wordsC (fillF wid lead most tab col ws ++ e) = ws ∧ (fillF wid lead most tab col ws ++ e = [] ∨ ∃ c r, fillF wid lead most tab col ws ++ e = c :: r ∧ isB c = true)
  | [], col, _, e, he => by
    unfold fillF
    rw [List.nil_append]
    refine ⟨?_, ?_⟩
    · have := wordsC_blanks e he []; rw [List.append_nil] at this; rw [this]; rfl
    · cases e with
      | nil => exact .inl rfl
      | cons c r => exact .inr ⟨c, r, rfl, he c List.mem_cons_self⟩
  | w :: ws, col, hw, e, he => by
    have hb : ∀ c ∈ lead, isB c = true := fun c hc => isT_B (hl c hc)
    unfold fillF
    split
    · obtain ⟨i1, i2⟩ := fillF_words hl ws (widthC tab wid (col + 1) w) (fun x hx => hw x (List.mem_cons_of_mem _ hx)) e he
      refine ⟨?_, .inr ⟨32, _, rfl, rfl⟩⟩
      rw [show 32 :: w ++ fillF wid lead most tab (widthC tab wid (col + 1) w) ws ++ e = [32] ++ (w ++ (fillF wid lead most tab (widthC tab wid (col + 1) w) ws ++ e)) by simp]
      rw [wordsC_blanks [32] (by simp; rfl), wordsC_word (hw w List.mem_cons_self) i2, i1]
    · obtain ⟨i1, i2⟩ := fillF_words hl ws (widthC tab wid (widthC tab wid 0 lead) w) (fun x hx => hw x (List.mem_cons_of_mem _ hx)) e he
      refine ⟨?_, .inr ⟨10, _, rfl, rfl⟩⟩
      rw [show 10 :: lead ++ w ++ fillF wid lead most tab (widthC tab wid (widthC tab wid 0 lead) w) ws ++ e = [10] ++ (lead ++ (w ++ (fillF wid lead most tab (widthC tab wid (widthC tab wid 0 lead) w) ws ++ e))) by simp]
      rw [wordsC_blanks [10] (by simp; rfl), wordsC_blanks lead hb, wordsC_word (hw w List.mem_cons_self) i2, i1]
theorem fillW_words (hl : ∀ c ∈ lead, isT c = true) {ws : List (List Nat)} (hw : ∀ w ∈ ws, isWd w) {e : List Nat} (he : ∀ c ∈ e, isB c = true) : wordsC (fillW wid lead most tab ws ++ e) = ws := by
  cases ws with
  | nil =>
    show wordsC ([] ++ e) = []
    have := wordsC_blanks e he []; rw [List.append_nil] at this; rw [List.nil_append, this]; rfl
  | cons w ws =>
    obtain ⟨i1, i2⟩ := fillF_words (wid := wid) (most := most) (tab := tab) hl ws (widthC tab wid (widthC tab wid 0 lead) w) (fun x hx => hw x (List.mem_cons_of_mem _ hx)) e he
    unfold fillW
    rw [List.append_assoc, List.append_assoc, wordsC_blanks lead (fun c hc => isT_B (hl c hc)), wordsC_word (hw w List.mem_cons_self) i2, i1]
theorem takeWhile_lead {lead w r : List Nat} (hl : ∀ c ∈ lead, isT c = true) (hw : isWd w) : leadC (lead ++ (w ++ r)) = lead := by
  unfold leadC
  rw [List.takeWhile_append_of_pos hl]
  obtain ⟨h1, h2⟩ := hw
  cases w with
  | nil => exact absurd rfl h1
  | cons c w =>
    have hc : isT c = false := by
      have := h2 c List.mem_cons_self
      unfold isB at this; unfold isT; simp at this ⊢; omega
    rw [List.cons_append, List.takeWhile_cons_of_neg (by simp [hc])]; simp
theorem leadC_T : ∀ (cs : List Nat), ∀ c ∈ leadC cs, isT c = true
  | [], c, hc => by simp [leadC] at hc
  | x :: cs, c, hc => by
    unfold leadC at hc
    rw [List.takeWhile_cons] at hc
    split at hc
    · rename_i h
      rw [List.mem_cons] at hc
      rcases hc with rfl | hc
      · exact h
      · exact leadC_T cs c hc
    · simp at hc
theorem endNL_B (cs : List Nat) : ∀ c ∈ endNL cs, isB c = true := by
  unfold endNL; split <;> simp [isB]
theorem snoc_of {w : List Nat} (h : w ≠ []) : ∃ w0 y, w = w0 ++ [y] := ⟨w.dropLast, w.getLast h, (List.dropLast_concat_getLast h).symm⟩
theorem last_app {a b : List Nat} (h : b ≠ []) : (a ++ b).getLast? = b.getLast? := by
  rw [List.getLast?_append]
  cases hb : b.getLast? with
  | none => exact absurd (List.getLast?_eq_none_iff.1 hb) h
  | some x => rfl
theorem fillF_last (hw2 : ∀ c ∈ lead, isT c = true) : ∀ (ws : List (List Nat)) (col : Nat) (x : Nat), (∀ w ∈ ws, isWd w) → x ≠ 10 → (x :: fillF wid lead most tab col ws).getLast? ≠ some 10
  | [], col, x, _, hx => by unfold fillF; simp; exact hx
  | w :: ws, col, x, hw, hx => by
    obtain ⟨h1, h2⟩ := hw w List.mem_cons_self
    obtain ⟨w0, y, rfl⟩ : ∃ w0 y, w = w0 ++ [y] := snoc_of h1
    have hy : y ≠ 10 := fun e => by have := h2 y (by simp); rw [e] at this; simp [isB] at this
    unfold fillF
    split
    · have ih := fillF_last hw2 ws (widthC tab wid (col + 1) (w0 ++ [y])) y (fun x hx => hw x (List.mem_cons_of_mem _ hx)) hy
      rw [show x :: (32 :: (w0 ++ [y]) ++ fillF wid lead most tab (widthC tab wid (col + 1) (w0 ++ [y])) ws) = (x :: 32 :: w0) ++ (y :: fillF wid lead most tab (widthC tab wid (col + 1) (w0 ++ [y])) ws) by simp]
      rw [last_app (by simp)]; exact ih
    · have ih := fillF_last hw2 ws (widthC tab wid (widthC tab wid 0 lead) (w0 ++ [y])) y (fun x hx => hw x (List.mem_cons_of_mem _ hx)) hy
      rw [show x :: (10 :: lead ++ (w0 ++ [y]) ++ fillF wid lead most tab (widthC tab wid (widthC tab wid 0 lead) (w0 ++ [y])) ws) = (x :: 10 :: lead ++ w0) ++ (y :: fillF wid lead most tab (widthC tab wid (widthC tab wid 0 lead) (w0 ++ [y])) ws) by simp]
      rw [last_app (by simp)]; exact ih
end
section
variable {wid : Nat → Nat} {most tab : Nat}
/-- Filling a paragraph twice. -/
theorem fillC_again (cs : List Nat) (hne : wordsC cs ≠ []) : fillC wid most tab (fillC wid most tab cs) = fillC wid most tab cs := by
  have hl := leadC_T cs
  have hwd := wordsC_wd cs
  have he := endNL_B cs
  have e1 : wordsC (fillC wid most tab cs) = wordsC cs := fillW_words hl hwd he
  have e2 : leadC (fillC wid most tab cs) = leadC cs := by
    unfold fillC
    cases hws : wordsC cs with
    | nil => exact absurd hws hne
    | cons w ws =>
      unfold fillW
      rw [List.append_assoc, List.append_assoc]
      exact takeWhile_lead hl (hwd w (by rw [hws]; exact List.mem_cons_self))
  have e3 : endNL (fillC wid most tab cs) = endNL cs := by
    by_cases hg : cs.getLast? = some 10
    · have h1 : endNL cs = [10] := by unfold endNL; rw [if_pos hg]
      unfold endNL
      rw [if_pos hg, if_pos (by unfold fillC; rw [h1, last_app (by simp)]; rfl)]
    · have h1 : endNL cs = [] := by unfold endNL; rw [if_neg hg]
      unfold endNL
      rw [if_neg hg, if_neg]
      unfold fillC
      rw [h1, List.append_nil]
      cases hws : wordsC cs with
      | nil => exact absurd hws hne
      | cons w ws =>
        have hww : ∀ x ∈ w :: ws, isWd x := by rw [← hws]; exact hwd
        obtain ⟨h3, h4⟩ := hww w List.mem_cons_self
        obtain ⟨w0, y, rfl⟩ : ∃ w0 y, w = w0 ++ [y] := snoc_of h3
        have hy : y ≠ 10 := fun e => by have := h4 y (by simp); rw [e] at this; simp [isB] at this
        show ¬ (leadC cs ++ (w0 ++ [y]) ++ fillF wid (leadC cs) most tab (widthC tab wid (widthC tab wid 0 (leadC cs)) (w0 ++ [y])) ws).getLast? = some 10
        rw [show leadC cs ++ (w0 ++ [y]) ++ fillF wid (leadC cs) most tab (widthC tab wid (widthC tab wid 0 (leadC cs)) (w0 ++ [y])) ws = (leadC cs ++ w0) ++ (y :: fillF wid (leadC cs) most tab (widthC tab wid (widthC tab wid 0 (leadC cs)) (w0 ++ [y])) ws) by simp]
        rw [last_app (by simp)]
        exact fillF_last hl ws _ y (fun x hx => hww x (List.mem_cons_of_mem _ hx)) hy
  show fillW wid (leadC (fillC wid most tab cs)) most tab (wordsC (fillC wid most tab cs)) ++ endNL (fillC wid most tab cs) = _
  rw [e1, e2, e3]; rfl
end
end Go.Proofs.YtcfdalmllegefaaGreatDoor
/- ColumnFills, in plain Lean: rows; filling a text twice. -/
namespace Go.Proofs.YtcfdalmllegefaaGreatDoor
set_option linter.unusedVariables false
set_option linter.unusedSimpArgs false
/-! ### rows -/
theorem rowsA_app (a : List Nat) (h : 10 ∉ a) (b : List Nat) : ∀ cur, rowsA cur (a ++ b) = rowsA (cur ++ a) b := by
  induction a with
  | nil => intro cur; simp
  | cons c a ih =>
    intro cur
    rw [List.cons_append, rowsA, if_neg (fun e => h (by rw [e]; exact List.mem_cons_self)), ih (fun e => h (List.mem_cons_of_mem _ e))]
    simp
/-- A row with its line feed. -/
def isRow (r : List Nat) : Prop := ∃ a, 10 ∉ a ∧ r = a ++ [10]
theorem rowsC_row {r : List Nat} (h : isRow r) (b : List Nat) : rowsC (r ++ b) = r :: rowsC b := by
  obtain ⟨a, ha, rfl⟩ := h
  unfold rowsC
  rw [List.append_assoc, rowsA_app a ha, List.nil_append]
  rw [List.cons_append, List.nil_append, rowsA, if_pos rfl]
def RowsOk : List (List Nat) → Prop
  | [] => True
  | r :: R => (isRow r ∨ (R = [] ∧ r ≠ [] ∧ 10 ∉ r)) ∧ RowsOk R
theorem rowsA_ok : ∀ (cs cur : List Nat), 10 ∉ cur → RowsOk (rowsA cur cs) ∧ (rowsA cur cs).flatten = cur ++ cs
  | [], cur, h => by
    unfold rowsA
    split
    · rename_i e; subst e; exact ⟨trivial, rfl⟩
    · rename_i e; exact ⟨⟨.inr ⟨rfl, e, h⟩, trivial⟩, by simp⟩
  | c :: cs, cur, h => by
    unfold rowsA
    split
    · rename_i e
      subst e
      obtain ⟨i1, i2⟩ := rowsA_ok cs [] (by simp)
      exact ⟨⟨.inl ⟨cur, h, rfl⟩, i1⟩, by rw [List.flatten_cons, i2]; simp⟩
    · rename_i e
      obtain ⟨i1, i2⟩ := rowsA_ok cs (cur ++ [c]) (by simp; exact ⟨h, fun q => e q.symm⟩)
      exact ⟨i1, by rw [i2]; simp⟩
theorem rowsC_ok (cs : List Nat) : RowsOk (rowsC cs) := (rowsA_ok cs [] (by simp)).1
theorem rowsC_flat (cs : List Nat) : (rowsC cs).flatten = cs := by have := (rowsA_ok cs [] (by simp)).2; rwa [List.nil_append] at this
theorem rowsC_end {r : List Nat} (h1 : r ≠ []) (h2 : 10 ∉ r) : rowsC r = [r] := by
  unfold rowsC
  have := rowsA_app r h2 [] []
  rw [List.append_nil, List.nil_append] at this
  rw [this]; unfold rowsA; rw [if_neg h1]
/-- a ends with a line feed, or is empty. -/
def fullR (a : List Nat) : Prop := a = [] ∨ ∃ b, a = b ++ [10]
theorem rowsA_full : ∀ (a cur : List Nat), 10 ∉ cur → (∃ b, cur ++ a = b ++ [10]) → ∀ c, rowsA cur (a ++ c) = rowsA cur a ++ rowsC c
  | [], cur, h, ⟨b, hb⟩, c => by
    rw [List.append_nil] at hb
    exact absurd (by rw [hb]; simp) h
  | x :: a, cur, h, ⟨b, hb⟩, c => by
    rw [List.cons_append]
    by_cases e : x = 10
    · subst e
      rw [rowsA, if_pos rfl, rowsA, if_pos rfl, List.cons_append]
      congr 1
      by_cases ha : a = []
      · subst ha; simp [rowsA, rowsC]
      · refine rowsA_full a [] (by simp) ?_ c
        obtain ⟨a0, y, rfl⟩ := snoc_of ha
        refine ⟨a0, ?_⟩
        have h2 : ((cur ++ 10 :: a0) ++ [y]) = b ++ [10] := by rw [← hb]; simp
        have := (List.append_inj' h2 rfl).2
        rw [this]; rfl
    · rw [rowsA, if_neg e, rowsA, if_neg e]
      refine rowsA_full a (cur ++ [x]) (by simp; exact ⟨h, fun q => e q.symm⟩) ⟨b, by rw [← hb]; simp⟩ c
theorem rowsC_full {a : List Nat} (h : fullR a) (c : List Nat) : rowsC (a ++ c) = rowsC a ++ rowsC c := by
  rcases h with rfl | ⟨b, rfl⟩
  · simp [rowsC, rowsA]
  · exact rowsA_full (b ++ [10]) [] (by simp) ⟨b, rfl⟩ c
/-! ### has a word -/
theorem words_none {cs : List Nat} : wordsC cs = [] ↔ ∀ c ∈ cs, isB c = true := by
  constructor
  · intro h
    have key : ∀ (cs cur : List Nat), wordsA cur cs = [] → cur = [] ∧ ∀ c ∈ cs, isB c = true := by
      intro cs
      induction cs with
      | nil => intro cur h; unfold wordsA at h; split at h; rename_i e; exact ⟨e, by simp⟩; simp at h
      | cons c cs ih =>
        intro cur h
        unfold wordsA at h
        split at h
        · rename_i hb
          split at h
          · rename_i e
            refine ⟨e, fun x hx => ?_⟩
            rw [List.mem_cons] at hx
            rcases hx with rfl | hx
            · exact hb
            · exact (ih [] h).2 x hx
          · simp at h
        · have := (ih _ h).1
          simp at this
    exact (key cs [] h).2
  · intro h
    have := wordsC_blanks cs h []
    rw [List.append_nil] at this
    rw [this]; rfl
theorem words_some {cs : List Nat} : wordsC cs ≠ [] ↔ ∃ c ∈ cs, isB c = false := by
  rw [ne_eq, words_none]
  constructor
  · intro h
    apply Classical.byContradiction
    intro hn
    exact h (fun c hc => by cases hb : isB c with | true => rfl | false => exact absurd ⟨c, hc, hb⟩ hn)
  · rintro ⟨c, hc, hb⟩ h
    rw [h c hc] at hb; cases hb
theorem words_left {a b : List Nat} (h : wordsC a ≠ []) : wordsC (a ++ b) ≠ [] := by
  rw [words_some] at h ⊢
  obtain ⟨c, hc, hb⟩ := h
  exact ⟨c, List.mem_append_left _ hc, hb⟩
theorem words_right {a b : List Nat} (h : wordsC b ≠ []) : wordsC (a ++ b) ≠ [] := by
  rw [words_some] at h ⊢
  obtain ⟨c, hc, hb⟩ := h
  exact ⟨c, List.mem_append_right _ hc, hb⟩
theorem word_ten {w : List Nat} (h : isWd w) : 10 ∉ w := fun e => by have := h.2 10 e; simp [isB] at this
theorem lead_ten {l : List Nat} (h : ∀ c ∈ l, isT c = true) : 10 ∉ l := fun e => by have := h 10 e; simp [isT] at this
theorem wd_words {w : List Nat} (h : isWd w) : wordsC w ≠ [] := by
  rw [words_some]
  obtain ⟨h1, h2⟩ := h
  cases w with
  | nil => exact absurd rfl h1
  | cons c w => exact ⟨c, List.mem_cons_self, h2 c List.mem_cons_self⟩
section
variable {wid : Nat → Nat} {most tab : Nat} {lead : List Nat}
theorem fillF_rows (hl : ∀ c ∈ lead, isT c = true) {e : List Nat} (he : e = [] ∨ e = [10]) : ∀ (ws : List (List Nat)) (col : Nat) (cur : List Nat), (∀ w ∈ ws, isWd w) → 10 ∉ cur → wordsC cur ≠ [] →
    ∀ r ∈ rowsA cur (fillF wid lead most tab col ws ++ e), wordsC r ≠ []
  | [], col, cur, _, h10, hcur, r, hr => by
    have hne : cur ≠ [] := fun q => hcur (by rw [q]; rfl)
    unfold fillF at hr
    rcases he with rfl | rfl
    · unfold rowsA at hr; simp [hne] at hr; rw [hr]; exact hcur
    · simp [rowsA] at hr; rw [hr]; exact words_left hcur
  | w :: ws, col, cur, hw, h10, hcur, r, hr => by
    have hww := hw w List.mem_cons_self
    have hwt : ∀ x ∈ ws, isWd x := fun x hx => hw x (List.mem_cons_of_mem _ hx)
    have h1 := word_ten hww
    unfold fillF at hr
    split at hr
    · rw [List.append_assoc, rowsA_app (32 :: w) (by simp; exact h1)] at hr
      exact fillF_rows hl he ws _ _ hwt (by simp; exact ⟨h10, h1⟩) (words_left hcur) r hr
    · rw [show 10 :: lead ++ w ++ fillF wid lead most tab (widthC tab wid (widthC tab wid 0 lead) w) ws ++ e = 10 :: ((lead ++ w) ++ (fillF wid lead most tab (widthC tab wid (widthC tab wid 0 lead) w) ws ++ e)) by simp, rowsA, if_pos rfl, List.mem_cons] at hr
      rcases hr with rfl | hr
      · exact words_left hcur
      · rw [rowsA_app (lead ++ w) (by simp; exact ⟨lead_ten hl, h1⟩)] at hr
        exact fillF_rows hl he ws _ _ hwt (by simp; exact ⟨lead_ten hl, h1⟩) (by rw [List.nil_append]; exact words_right (wd_words hww)) r hr
theorem endNL_or (cs : List Nat) : endNL cs = [] ∨ endNL cs = [10] := by unfold endNL; split <;> simp
theorem fillC_rows {cs : List Nat} (hne : wordsC cs ≠ []) : ∀ r ∈ rowsC (fillC wid most tab cs), wordsC r ≠ [] := by
  unfold fillC
  have hwd := wordsC_wd cs
  cases hws : wordsC cs with
  | nil => exact absurd hws hne
  | cons w ws =>
    rw [hws] at hwd
    have hww := hwd w List.mem_cons_self
    show ∀ r ∈ rowsC (leadC cs ++ w ++ fillF wid (leadC cs) most tab (widthC tab wid (widthC tab wid 0 (leadC cs)) w) ws ++ endNL cs), wordsC r ≠ []
    unfold rowsC
    rw [List.append_assoc, rowsA_app (leadC cs ++ w) (by simp; exact ⟨lead_ten (leadC_T cs), word_ten hww⟩)]
    exact fillF_rows (leadC_T cs) (endNL_or cs) ws _ _ (fun x hx => hwd x (List.mem_cons_of_mem _ hx)) (by simp; exact ⟨lead_ten (leadC_T cs), word_ten hww⟩) (by rw [List.nil_append]; exact words_right (wd_words hww))
theorem fillC_full {b : List Nat} : fullR (fillC wid most tab (b ++ [10])) := by
  refine .inr ⟨fillW wid (leadC (b ++ [10])) most tab (wordsC (b ++ [10])), ?_⟩
  unfold fillC
  congr 1
  unfold endNL; rw [if_pos (by simp)]
end
end Go.Proofs.YtcfdalmllegefaaGreatDoor
/- ColumnFills, in plain Lean: a whole text. -/
namespace Go.Proofs.YtcfdalmllegefaaGreatDoor
set_option linter.unusedVariables false
set_option linter.unusedSimpArgs false
def flC (wid : Nat → Nat) (most tab : Nat) (par : List Nat) : List Nat := if par = [] then [] else fillC wid most tab par
/-- What FillText makes of rows; par: the rows of the paragraph so far. -/
def procC (wid : Nat → Nat) (most tab : Nat) : List (List Nat) → List Nat → List Nat
  | [], par => flC wid most tab par
  | r :: R, par => if wordsC r = [] then flC wid most tab par ++ r ++ procC wid most tab R [] else procC wid most tab R (par ++ r)
def fillT (wid : Nat → Nat) (most tab : Nat) (cs : List Nat) : List Nat := procC wid most tab (rowsC cs) []
section
variable {wid : Nat → Nat} {most tab : Nat}
theorem proc_all : ∀ (L R : List (List Nat)) (par : List Nat), (∀ r ∈ L, wordsC r ≠ []) → procC wid most tab (L ++ R) par = procC wid most tab R (par ++ L.flatten)
  | [], R, par, _ => by simp
  | r :: L, R, par, h => by
    rw [List.cons_append, procC, if_neg (h r List.mem_cons_self), proc_all L R (par ++ r) (fun x hx => h x (List.mem_cons_of_mem _ hx))]
    simp
theorem fillC_ne {cs : List Nat} (h : wordsC cs ≠ []) : fillC wid most tab cs ≠ [] := fun e => by
  have h1 := fillC_again (wid := wid) (most := most) (tab := tab) cs h
  have e1 : wordsC (fillC wid most tab cs) = wordsC cs := fillW_words (leadC_T cs) (wordsC_wd cs) (endNL_B cs)
  rw [e] at e1
  exact h e1.symm
/-- The paragraph so far: none, or rows with words, whole ones if more rows follow. -/
def ParOk (R : List (List Nat)) (par : List Nat) : Prop := par = [] ∨ wordsC par ≠ [] ∧ (R = [] ∨ ∃ b, par = b ++ [10])
theorem fl_full {R : List (List Nat)} {r par : List Nat} (h : ParOk (r :: R) par) : fullR (flC wid most tab par) := by
  unfold flC
  split
  · exact .inl rfl
  · rename_i hne
    rcases h with e | ⟨_, e | ⟨b, rfl⟩⟩
    · exact absurd e hne
    · cases e
    · exact fillC_full
theorem fl_rows {R : List (List Nat)} {par : List Nat} (h : ParOk R par) : ∀ r ∈ rowsC (flC wid most tab par), wordsC r ≠ [] := by
  unfold flC
  split
  · simp [rowsC, rowsA]
  · rename_i hne
    rcases h with e | ⟨hw, _⟩
    · exact absurd e hne
    · exact fillC_rows hw
theorem fl_again {R : List (List Nat)} {par : List Nat} (h : ParOk R par) : flC wid most tab (flC wid most tab par) = flC wid most tab par := by
  rcases h with rfl | ⟨hw, _⟩
  · rfl
  · have hne : par ≠ [] := fun e => hw (by rw [e]; rfl)
    unfold flC
    rw [if_neg hne, if_neg (fillC_ne hw), fillC_again par hw]
theorem par_next {R : List (List Nat)} {r par : List Nat} (hR : RowsOk (r :: R)) (hr : wordsC r ≠ []) (h : ParOk (r :: R) par) : ParOk R (par ++ r) := by
  refine .inr ⟨words_right hr, ?_⟩
  rcases hR.1 with ⟨a, _, rfl⟩ | ⟨e, _⟩
  · exact .inr ⟨par ++ a, by simp⟩
  · exact .inl e
theorem row_self {R : List (List Nat)} {r : List Nat} (hR : RowsOk (r :: R)) (b : List Nat) (hb : R = [] → b = []) : rowsC (r ++ b) = r :: rowsC b := by
  rcases hR.1 with h | ⟨e, h1, h2⟩
  · exact rowsC_row h b
  · rw [hb e, List.append_nil, rowsC_end h1 h2]; simp [rowsC, rowsA]
theorem proc_nil : procC wid most tab [] [] = [] := rfl
/-- The rows of what FillText makes. -/
theorem proc_rows {R : List (List Nat)} {r par : List Nat} (hR : RowsOk (r :: R)) (hr : wordsC r = []) (h : ParOk (r :: R) par) :
    rowsC (procC wid most tab (r :: R) par) = rowsC (flC wid most tab par) ++ r :: rowsC (procC wid most tab R []) := by
  rw [procC, if_pos hr, List.append_assoc, rowsC_full (fl_full h), row_self hR _ (fun e => by rw [e]; rfl)]
theorem proc_again : ∀ (R : List (List Nat)) (par : List Nat), RowsOk R → ParOk R par → procC wid most tab (rowsC (procC wid most tab R par)) [] = procC wid most tab R par
  | [], par, _, h => by
    show procC wid most tab (rowsC (flC wid most tab par)) [] = flC wid most tab par
    have := proc_all (wid := wid) (most := most) (tab := tab) (rowsC (flC wid most tab par)) [] [] (fl_rows h)
    rw [List.append_nil] at this
    rw [this, rowsC_flat, List.nil_append]
    exact fl_again h
  | r :: R, par, hR, h => by
    by_cases hr : wordsC r = []
    · rw [proc_rows hR hr h, proc_all _ _ _ (fl_rows h), rowsC_flat, List.nil_append, procC, if_pos hr, fl_again h, proc_again R [] hR.2 (.inl rfl)]
      rw [procC, if_pos hr]
    · have e : procC wid most tab (r :: R) par = procC wid most tab R (par ++ r) := by rw [procC, if_neg hr]
      rw [e]
      exact proc_again R (par ++ r) hR.2 (par_next hR hr h)
/-- Filling a text twice. -/
theorem fillT_again (cs : List Nat) : fillT wid most tab (fillT wid most tab cs) = fillT wid most tab cs := proc_again (rowsC cs) [] (rowsC_ok cs) (.inl rfl)
/-! ### its words -/
theorem words_full {a : List Nat} (h : fullR a) (b : List Nat) : wordsC (a ++ b) = wordsC a ++ wordsC b := by
  have key : ∀ (a cur b : List Nat), (∃ c, cur ++ a = c ++ [10]) → (∀ c ∈ cur, isB c = false) → wordsA cur (a ++ b) = wordsA cur a ++ wordsA [] b := by
    intro a
    induction a with
    | nil =>
      rintro cur b ⟨c, hc⟩ hcur
      rw [List.append_nil] at hc
      have := hcur 10 (by rw [hc]; simp)
      simp [isB] at this
    | cons x a ih =>
      rintro cur b ⟨c, hc⟩ hcur
      rw [List.cons_append, wordsA, wordsA]
      by_cases hx : isB x = true
      · rw [if_pos hx, if_pos hx]
        have hrest : wordsA [] (a ++ b) = wordsA [] a ++ wordsA [] b := by
          by_cases ha : a = []
          · subst ha; simp [wordsA]
          · refine ih [] b ?_ (by simp)
            obtain ⟨a0, y, rfl⟩ := snoc_of ha
            have h2 : ((cur ++ x :: a0) ++ [y]) = c ++ [10] := by rw [← hc]; simp
            exact ⟨a0, by rw [(List.append_inj' h2 rfl).2]; rfl⟩
        split
        · exact hrest
        · rw [hrest, List.cons_append]
      · rw [if_neg hx, if_neg hx]
        refine ih (cur ++ [x]) b ⟨c, by rw [← hc]; simp⟩ (fun y hy => ?_)
        rw [List.mem_append, List.mem_singleton] at hy
        rcases hy with hy | rfl
        · exact hcur y hy
        · simpa using hx
  rcases h with rfl | ⟨c, rfl⟩
  · simp [wordsC, wordsA]
  · exact key (c ++ [10]) [] b ⟨c, rfl⟩ (by simp)
theorem fl_words {R : List (List Nat)} {par : List Nat} (h : ParOk R par) : wordsC (flC wid most tab par) = wordsC par := by
  unfold flC
  split
  · rename_i e; rw [e]
  · exact fillW_words (leadC_T par) (wordsC_wd par) (endNL_B par)
theorem par_full {R : List (List Nat)} {r par : List Nat} (h : ParOk (r :: R) par) : fullR par := by
  rcases h with e | ⟨_, e | e⟩
  · exact .inl e
  · cases e
  · exact .inr e
theorem proc_words : ∀ (R : List (List Nat)) (par : List Nat), RowsOk R → ParOk R par → wordsC (procC wid most tab R par) = wordsC (par ++ R.flatten)
  | [], par, _, h => by
    show wordsC (flC wid most tab par) = _
    rw [fl_words h]; simp
  | r :: R, par, hR, h => by
    by_cases hr : wordsC r = []
    · have hrb := words_none.1 hr
      rw [procC, if_pos hr, List.append_assoc, words_full (fl_full h), fl_words h, wordsC_blanks r hrb, proc_words R [] hR.2 (.inl rfl), List.nil_append, List.flatten_cons, words_full (par_full h), wordsC_blanks r hrb]
    · have e : procC wid most tab (r :: R) par = procC wid most tab R (par ++ r) := by rw [procC, if_neg hr]
      rw [e, proc_words R (par ++ r) hR.2 (par_next hR hr h), List.flatten_cons, List.append_assoc]
theorem fillT_words (cs : List Nat) : wordsC (fillT wid most tab cs) = wordsC cs := by
  have := proc_words (wid := wid) (most := most) (tab := tab) (rowsC cs) [] (rowsC_ok cs) (.inl rfl)
  rw [rowsC_flat, List.nil_append] at this
  exact this
/-! ### its blank lines -/
/-- The rows with a line feed and no words. -/
def blankN (L : List (List Nat)) : Nat := (L.filter fun r => (wordsC r).isEmpty && r.getLast? == some 10).length
theorem blankN_app (a b : List (List Nat)) : blankN (a ++ b) = blankN a + blankN b := by unfold blankN; rw [List.filter_append, List.length_append]
theorem blankN_no {L : List (List Nat)} (h : ∀ r ∈ L, wordsC r ≠ []) : blankN L = 0 := by
  unfold blankN
  rw [List.length_eq_zero_iff, List.filter_eq_nil_iff]
  intro r hr hq
  simp at hq
  exact h r hr hq.1
theorem proc_blanks : ∀ (R : List (List Nat)) (par : List Nat), RowsOk R → ParOk R par → blankN (rowsC (procC wid most tab R par)) = blankN R
  | [], par, _, h => by
    show blankN (rowsC (flC wid most tab par)) = 0
    exact blankN_no (fl_rows h)
  | r :: R, par, hR, h => by
    by_cases hr : wordsC r = []
    · rw [proc_rows hR hr h, blankN_app, blankN_no (fl_rows h), show r :: rowsC (procC wid most tab R []) = [r] ++ rowsC (procC wid most tab R []) from rfl, blankN_app, proc_blanks R [] hR.2 (.inl rfl), show r :: R = [r] ++ R from rfl, blankN_app]; omega
    · have e : procC wid most tab (r :: R) par = procC wid most tab R (par ++ r) := by rw [procC, if_neg hr]
      rw [e, proc_blanks R (par ++ r) hR.2 (par_next hR hr h), show r :: R = [r] ++ R from rfl, blankN_app, blankN_no (L := [r]) (by simpa using hr)]; omega
theorem fillT_blanks (cs : List Nat) : blankN (rowsC (fillT wid most tab cs)) = blankN (rowsC cs) := proc_blanks (rowsC cs) [] (rowsC_ok cs) (.inl rfl)
end
end Go.Proofs.YtcfdalmllegefaaGreatDoor
/- ColumnFills, in plain Lean: the width of a filled text's rows. -/
namespace Go.Proofs.YtcfdalmllegefaaGreatDoor
set_option linter.unusedVariables false
set_option linter.unusedSimpArgs false
/-- A row without its line feed. -/
def lineOf (r : List Nat) : List Nat := if r.getLast? = some 10 then r.dropLast else r
theorem lineOf_ten (a : List Nat) : lineOf (a ++ [10]) = a := by unfold lineOf; rw [if_pos (by simp)]; simp
theorem lineOf_no {a : List Nat} (h : 10 ∉ a) : lineOf a = a := by
  unfold lineOf
  rw [if_neg (fun e => h (List.mem_of_getLast? e))]
theorem words_snoc (a : List Nat) : wordsC (a ++ [10]) = wordsC a := by
  have key : ∀ (a cur : List Nat), wordsA cur (a ++ [10]) = wordsA cur a := by
    intro a
    induction a with
    | nil => intro cur; simp [wordsA, isB]
    | cons x a ih =>
      intro cur
      rw [List.cons_append, wordsA, wordsA, ih, ih]
  exact key a []
/-- A row with more than one word is no wider than most. -/
def NarrowR (wid : Nat → Nat) (most tab : Nat) (r : List Nat) : Prop := 2 ≤ (wordsC (lineOf r)).length → widthC tab wid 0 (lineOf r) ≤ most
section
variable {wid : Nat → Nat} {most tab : Nat} {lead : List Nat}
theorem widthC_app (col : Nat) (a b : List Nat) : widthC tab wid col (a ++ b) = widthC tab wid (widthC tab wid col a) b := by unfold widthC; rw [List.foldl_append]
theorem fillF_narrow (h32 : wid 32 = 1) (hl : ∀ c ∈ lead, isT c = true) {e : List Nat} (he : e = [] ∨ e = [10]) : ∀ (ws : List (List Nat)) (col : Nat) (cur : List Nat), (∀ w ∈ ws, isWd w) → 10 ∉ cur → cur ≠ [] → widthC tab wid 0 cur = col → (2 ≤ (wordsC cur).length → col ≤ most) →
    ∀ r ∈ rowsA cur (fillF wid lead most tab col ws ++ e), NarrowR wid most tab r
  | [], col, cur, _, h10, hne, hcol, hp, r, hr => by
    unfold fillF at hr
    rcases he with rfl | rfl
    · unfold rowsA at hr; simp [hne] at hr; rw [hr]
      unfold NarrowR; rw [lineOf_no h10, hcol]; exact hp
    · simp [rowsA] at hr; rw [hr]
      unfold NarrowR; rw [lineOf_ten, hcol]; exact hp
  | w :: ws, col, cur, hw, h10, hne, hcol, hp, r, hr => by
    have hww := hw w List.mem_cons_self
    have hwt : ∀ x ∈ ws, isWd x := fun x hx => hw x (List.mem_cons_of_mem _ hx)
    have h1 := word_ten hww
    unfold fillF at hr
    split at hr
    · rename_i hle
      rw [List.append_assoc, rowsA_app (32 :: w) (by simp; exact h1)] at hr
      refine fillF_narrow h32 hl he ws _ _ hwt (by simp; exact ⟨h10, h1⟩) (by simp) ?_ (fun _ => hle) r hr
      rw [widthC_app, hcol]
      show widthC tab wid (afterN wid tab col 32) w = _
      unfold afterN; rw [if_neg (by omega), h32]
    · rw [show 10 :: lead ++ w ++ fillF wid lead most tab (widthC tab wid (widthC tab wid 0 lead) w) ws ++ e = 10 :: ((lead ++ w) ++ (fillF wid lead most tab (widthC tab wid (widthC tab wid 0 lead) w) ws ++ e)) by simp, rowsA, if_pos rfl, List.mem_cons] at hr
      rcases hr with rfl | hr
      · unfold NarrowR; rw [lineOf_ten, hcol]; exact hp
      · rw [rowsA_app (lead ++ w) (by simp; exact ⟨lead_ten hl, h1⟩), List.nil_append] at hr
        refine fillF_narrow h32 hl he ws _ _ hwt (by simp; exact ⟨lead_ten hl, h1⟩) (by simp; exact fun _ => hww.1) (widthC_app _ _ _) (fun q => ?_) r hr
        have : wordsC (lead ++ w) = [w] := by
          rw [wordsC_blanks lead (fun c hc => isT_B (hl c hc))]
          have := wordsC_word hww (cs := []) (.inl rfl)
          rw [List.append_nil] at this; rw [this]; rfl
        rw [this] at q; simp at q
theorem fillC_narrow (h32 : wid 32 = 1) {cs : List Nat} (hne : wordsC cs ≠ []) : ∀ r ∈ rowsC (fillC wid most tab cs), NarrowR wid most tab r := by
  unfold fillC
  have hwd := wordsC_wd cs
  cases hws : wordsC cs with
  | nil => exact absurd hws hne
  | cons w ws =>
    rw [hws] at hwd
    have hww := hwd w List.mem_cons_self
    show ∀ r ∈ rowsC (leadC cs ++ w ++ fillF wid (leadC cs) most tab (widthC tab wid (widthC tab wid 0 (leadC cs)) w) ws ++ endNL cs), NarrowR wid most tab r
    unfold rowsC
    rw [List.append_assoc, rowsA_app (leadC cs ++ w) (by simp; exact ⟨lead_ten (leadC_T cs), word_ten hww⟩), List.nil_append]
    refine fillF_narrow h32 (leadC_T cs) (endNL_or cs) ws _ _ (fun x hx => hwd x (List.mem_cons_of_mem _ hx)) (by simp; exact ⟨lead_ten (leadC_T cs), word_ten hww⟩) (by simp; exact fun _ => hww.1) (widthC_app _ _ _) (fun q => ?_)
    have : wordsC (leadC cs ++ w) = [w] := by
      rw [wordsC_blanks (leadC cs) (fun c hc => isT_B (leadC_T cs c hc))]
      have := wordsC_word hww (cs := []) (.inl rfl)
      rw [List.append_nil] at this; rw [this]; rfl
    rw [this] at q; simp at q
theorem line_words (r : List Nat) : wordsC (lineOf r) = wordsC r := by
  unfold lineOf
  split
  · rename_i h
    obtain ⟨a, rfl⟩ : ∃ a, r = a ++ [10] := by
      have hne : r ≠ [] := fun e => by rw [e] at h; simp at h
      obtain ⟨a, y, rfl⟩ := snoc_of hne
      have : y = 10 := by simpa using h
      exact ⟨a, by rw [this]⟩
    rw [words_snoc]; simp
  · rfl
theorem proc_narrow (h32 : wid 32 = 1) : ∀ (R : List (List Nat)) (par : List Nat), RowsOk R → ParOk R par → ∀ r ∈ rowsC (procC wid most tab R par), NarrowR wid most tab r := by
  have hfl : ∀ (R : List (List Nat)) (par : List Nat), ParOk R par → ∀ r ∈ rowsC (flC wid most tab par), NarrowR wid most tab r := by
    intro R par h r hr
    unfold flC at hr
    split at hr
    · simp [rowsC, rowsA] at hr
    · rename_i hne
      rcases h with e | ⟨hw, _⟩
      · exact absurd e hne
      · exact fillC_narrow h32 hw r hr
  intro R
  induction R with
  | nil => intro par _ h; exact hfl [] par h
  | cons r R ih =>
    intro par hR h
    by_cases hr : wordsC r = []
    · rw [proc_rows hR hr h]
      intro x hx
      rw [List.mem_append, List.mem_cons] at hx
      rcases hx with hx | rfl | hx
      · exact hfl _ par h x hx
      · intro q; rw [line_words, hr] at q; simp at q
      · exact ih [] hR.2 (.inl rfl) x hx
    · have e : procC wid most tab (r :: R) par = procC wid most tab R (par ++ r) := by rw [procC, if_neg hr]
      rw [e]
      exact ih (par ++ r) hR.2 (par_next hR hr h)
theorem fillT_narrow (h32 : wid 32 = 1) (cs : List Nat) : ∀ r ∈ rowsC (fillT wid most tab cs), NarrowR wid most tab r := proc_narrow h32 (rowsC cs) [] (rowsC_ok cs) (.inl rfl)
end
end Go.Proofs.YtcfdalmllegefaaGreatDoor
/- Plain: the document's way to take the first character of a string (copyistref01.point) finds one exactly where the decoder does; so the two notions of a valid string agree. -/
namespace Go.Proofs.YtcfdalmllegefaaGreatDoor
set_option linter.unusedVariables false

def tlN (n i b : Nat) : Prop := i < n ∧ 128 ≤ b ∧ b < 192
instance tlN.dec (n i b : Nat) : Decidable (tlN n i b) := by unfold tlN; infer_instance
def isN (c : Nat) : Prop := c ≤ 1114111 ∧ (c < 55296 ∨ 57343 < c)
instance isN.dec (c : Nat) : Decidable (isN c) := by unfold isN; infer_instance
def c2N (b0 b1 : Nat) : Nat := (b0 - 192) * 64 + b1 - 128
def c3N (b0 b1 b2 : Nat) : Nat := ((b0 - 224) * 64 + b1 - 128) * 64 + b2 - 128
def c4N (b0 b1 b2 b3 : Nat) : Nat := (((b0 - 240) * 64 + b1 - 128) * 64 + b2 - 128) * 64 + b3 - 128
/-- The first character and its length in bytes; length 0: none. -/
def ptN (n b0 b1 b2 b3 : Nat) : Nat × Nat :=
  if b0 < 128 then (b0, 1)
  else if (194 ≤ b0 ∧ b0 < 224) ∧ tlN n 1 b1 then (c2N b0 b1, 2)
  else if (224 ≤ b0 ∧ b0 < 240) ∧ tlN n 1 b1 ∧ tlN n 2 b2 then (if 2048 ≤ c3N b0 b1 b2 ∧ isN (c3N b0 b1 b2) then (c3N b0 b1 b2, 3) else (0, 0))
  else if (240 ≤ b0 ∧ b0 < 245) ∧ tlN n 1 b1 ∧ tlN n 2 b2 ∧ tlN n 3 b3 then (if 65536 ≤ c4N b0 b1 b2 b3 ∧ isN (c4N b0 b1 b2 b3) then (c4N b0 b1 b2 b3, 4) else (0, 0))
  else (0, 0)
set_option maxHeartbeats 4000000 in
set_option maxRecDepth 100000 in
theorem ptN_decode (n b0 b1 b2 b3 : Nat) (h0 : b0 < 256) (h1 : b1 < 256) (h2 : b2 < 256) (h3 : b3 < 256) :
    (ptN n b0 b1 b2 b3 = (0, 0) ∧ Lib.decodeN n b0 b1 b2 b3 = (65533, 1)) ∨ (0 < (ptN n b0 b1 b2 b3).2 ∧ ptN n b0 b1 b2 b3 = Lib.decodeN n b0 b1 b2 b3 ∧ ¬ ((Lib.decodeN n b0 b1 b2 b3).1 = 65533 ∧ (Lib.decodeN n b0 b1 b2 b3).2 = 1)) := by
  unfold ptN Lib.decodeN tlN isN c2N c3N c4N
  by_cases a0 : b0 < 128
  · rw [if_pos a0, if_pos a0]
    right
    refine ⟨by simp, rfl, ?_⟩
    simp; omega
  rw [if_neg a0, if_neg a0]
  by_cases a1 : b0 / 32 = 6 ∧ (1 < n ∧ b1 / 64 = 2)
  · rw [if_pos a1]
    by_cases a2 : b0 % 32 * 64 + b1 % 64 ≥ 128
    · rw [if_pos a2, if_pos (by omega)]
      right
      exact ⟨by simp, by rw [Prod.mk.injEq]; omega, by simp⟩
    · rw [if_neg a2, if_neg (by omega), if_neg (by omega), if_neg (by omega)]
      exact .inl ⟨rfl, rfl⟩
  rw [if_neg a1, if_neg (by omega)]
  by_cases a3 : b0 / 16 = 14 ∧ (1 < n ∧ b1 / 64 = 2) ∧ (2 < n ∧ b2 / 64 = 2)
  · rw [if_pos a3, if_pos (by omega)]
    have ec : ((b0 - 224) * 64 + b1 - 128) * 64 + b2 - 128 = b0 % 16 * 4096 + b1 % 64 * 64 + b2 % 64 := by omega
    rw [ec]
    split
    · rename_i h
      rw [if_pos (by omega)]
      exact .inr ⟨by simp, rfl, by simp⟩
    · rename_i h
      rw [if_neg (by omega)]
      exact .inl ⟨rfl, rfl⟩
  rw [if_neg a3, if_neg (by omega)]
  by_cases a4 : b0 / 8 = 30 ∧ (1 < n ∧ b1 / 64 = 2) ∧ (2 < n ∧ b2 / 64 = 2) ∧ (3 < n ∧ b3 / 64 = 2)
  · rw [if_pos a4]
    by_cases a5 : b0 < 245
    · rw [if_pos (by omega)]
      have ec : (((b0 - 240) * 64 + b1 - 128) * 64 + b2 - 128) * 64 + b3 - 128 = b0 % 8 * 262144 + b1 % 64 * 4096 + b2 % 64 * 64 + b3 % 64 := by omega
      rw [ec]
      split
      · rename_i h
        rw [if_pos (by omega)]
        exact .inr ⟨by simp, rfl, by simp⟩
      · rename_i h
        rw [if_neg (by omega)]
        exact .inl ⟨rfl, rfl⟩
    · rw [if_neg (by omega), if_neg (by omega)]
      exact .inl ⟨rfl, rfl⟩
  · rw [if_neg a4, if_neg (by omega)]
    exact .inl ⟨rfl, rfl⟩

def bAt (l : List UInt8) (i : Nat) : Nat := (l.getD i 0).toNat
theorem bAt_lt (l : List UInt8) (i : Nat) : bAt l i < 256 := (l.getD i 0).toNat_lt
/-- The first character of a string, and its length. -/
def ptL (l : List UInt8) : Nat × Nat := ptN l.length (bAt l 0) (bAt l 1) (bAt l 2) (bAt l 3)
theorem ptL_bound (l : List UInt8) (h : l ≠ []) : (ptL l).2 ≤ l.length ∧ (ptL l).2 ≤ 4 ∧ (ptL l).1 ≤ 1114111 := by
  have hl : 0 < l.length := List.length_pos_iff.2 h
  unfold ptL ptN
  generalize bAt l 0 = b0
  generalize bAt l 1 = b1
  generalize bAt l 2 = b2
  generalize bAt l 3 = b3
  by_cases a0 : b0 < 128
  · rw [if_pos a0]; exact ⟨hl, by omega, by show b0 ≤ _; omega⟩
  rw [if_neg a0]
  by_cases a1 : (194 ≤ b0 ∧ b0 < 224) ∧ tlN l.length 1 b1
  · rw [if_pos a1]
    exact ⟨a1.2.1, by omega, by show c2N b0 b1 ≤ _; unfold c2N; have := a1.2.2; omega⟩
  rw [if_neg a1]
  by_cases a2 : (224 ≤ b0 ∧ b0 < 240) ∧ tlN l.length 1 b1 ∧ tlN l.length 2 b2
  · rw [if_pos a2]
    by_cases a3 : 2048 ≤ c3N b0 b1 b2 ∧ isN (c3N b0 b1 b2)
    · rw [if_pos a3]; exact ⟨a2.2.2.1, by show 3 ≤ 4; omega, a3.2.1⟩
    · rw [if_neg a3]; exact ⟨Nat.zero_le _, Nat.zero_le _, Nat.zero_le _⟩
  rw [if_neg a2]
  by_cases a4 : (240 ≤ b0 ∧ b0 < 245) ∧ tlN l.length 1 b1 ∧ tlN l.length 2 b2 ∧ tlN l.length 3 b3
  · rw [if_pos a4]
    by_cases a5 : 65536 ≤ c4N b0 b1 b2 b3 ∧ isN (c4N b0 b1 b2 b3)
    · rw [if_pos a5]; exact ⟨a4.2.2.2.1, Nat.le_refl _, a5.2.1⟩
    · rw [if_neg a5]; exact ⟨Nat.zero_le _, Nat.zero_le _, Nat.zero_le _⟩
  · rw [if_neg a4]; exact ⟨Nat.zero_le _, Nat.zero_le _, Nat.zero_le _⟩
/-- The characters of a string; none if the string is not valid. -/
def chars : Nat → List UInt8 → Option (List Nat)
  | 0, _ => some []
  | n + 1, l => if l = [] then some [] else if (ptL l).2 = 0 then none else (chars n (l.drop (ptL l).2)).map ((ptL l).1 :: ·)
theorem chars_nil : ∀ n, chars n [] = some []
  | 0 => rfl
  | _ + 1 => by simp [chars]
theorem chars_fuel : ∀ (n m : Nat) (l : List UInt8), l.length ≤ n → l.length ≤ m → chars n l = chars m l
  | 0, m, l, hn, _ => by
    have : l = [] := List.eq_nil_of_length_eq_zero (by omega)
    subst this; rw [chars_nil, chars_nil]
  | n + 1, 0, l, _, hm => by
    have : l = [] := List.eq_nil_of_length_eq_zero (by omega)
    subst this; rw [chars_nil, chars_nil]
  | n + 1, m + 1, l, hn, hm => by
    unfold chars
    by_cases hne : l = []
    · simp [hne]
    · have hl : 0 < l.length := List.length_pos_iff.2 hne
      rw [if_neg hne, if_neg hne]
      by_cases h0 : (ptL l).2 = 0
      · rw [if_pos h0, if_pos h0]
      · rw [if_neg h0, if_neg h0, chars_fuel n m (l.drop (ptL l).2) (by rw [List.length_drop]; omega) (by rw [List.length_drop]; omega)]
def charsD (l : List UInt8) : Option (List Nat) := chars l.length l
theorem charsD_nil : charsD [] = some [] := rfl
theorem charsD_step (l : List UInt8) (hne : l ≠ []) : charsD l = if (ptL l).2 = 0 then none else (charsD (l.drop (ptL l).2)).map ((ptL l).1 :: ·) := by
  have hl : 0 < l.length := List.length_pos_iff.2 hne
  obtain ⟨n, hn⟩ : ∃ n, l.length = n + 1 := ⟨l.length - 1, by omega⟩
  have e : charsD l = chars (n + 1) l := by unfold charsD; rw [hn]
  rw [e]
  show (if l = [] then some [] else _) = _
  rw [if_neg hne]
  by_cases h0 : (ptL l).2 = 0
  · rw [if_pos h0, if_pos h0]
  · rw [if_neg h0, if_neg h0]
    unfold charsD
    rw [chars_fuel n (l.drop (ptL l).2).length _ (by rw [List.length_drop]; omega) (Nat.le_refl _)]
theorem ptL_decode (l : List UInt8) : (ptL l = (0, 0) ∧ Lib.decodeL l = (65533, 1)) ∨ (0 < (ptL l).2 ∧ ptL l = Lib.decodeL l ∧ ¬ ((Lib.decodeL l).1 = 65533 ∧ (Lib.decodeL l).2 = 1)) := by
  rw [Lib.decodeL_N]
  exact ptN_decode _ _ _ _ _ (bAt_lt l 0) (bAt_lt l 1) (bAt_lt l 2) (bAt_lt l 3)
/-- The two notions of a valid string agree. -/
theorem chars_valid : ∀ (n : Nat) (l : List UInt8), l.length ≤ n → (charsD l).isSome = Lib.validD l
  | 0, l, hn => by
    have : l = [] := List.eq_nil_of_length_eq_zero (by omega)
    subst this; rfl
  | n + 1, l, hn => by
    by_cases hne : l = []
    · subst hne; rfl
    · have hl : 0 < l.length := List.length_pos_iff.2 hne
      rw [charsD_step l hne, Lib.validD_step l hne]
      rcases ptL_decode l with ⟨h1, h2⟩ | ⟨h1, h2, h3⟩
      · rw [h1, h2]; rfl
      · rw [if_neg (by omega), if_neg h3, ← h2, Option.isSome_map]
        exact chars_valid n _ (by rw [List.length_drop]; omega)
theorem chars_len : ∀ (n : Nat) (l : List UInt8) (cs : List Nat), l.length ≤ n → charsD l = some cs → cs.length ≤ l.length
  | 0, l, cs, hn, h => by
    have : l = [] := List.eq_nil_of_length_eq_zero (by omega)
    subst this
    rw [charsD_nil] at h; cases h; simp
  | n + 1, l, cs, hn, h => by
    by_cases hne : l = []
    · subst hne; rw [charsD_nil] at h; cases h; simp
    · have hl : 0 < l.length := List.length_pos_iff.2 hne
      rw [charsD_step l hne] at h
      by_cases h0 : (ptL l).2 = 0
      · rw [if_pos h0] at h; cases h
      · rw [if_neg h0] at h
        cases hc : charsD (l.drop (ptL l).2) with
        | none => rw [hc] at h; cases h
        | some t =>
          rw [hc] at h
          cases h
          have := chars_len n (l.drop (ptL l).2) t (by rw [List.length_drop]; omega) hc
          rw [List.length_drop] at this
          simp only [List.length_cons]; omega
end Go.Proofs.YtcfdalmllegefaaGreatDoor
