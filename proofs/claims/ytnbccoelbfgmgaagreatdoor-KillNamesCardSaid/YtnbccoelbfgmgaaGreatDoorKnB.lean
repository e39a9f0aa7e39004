/- KillNames in plain Lean: the rectangles of the chapter's example and of the wide text. -/
import Derived.Test.YtnbccoelbfgmgaaGreatDoorZ20
import Derived.Test.YtnbccoelbfgmgaaGreatDoorZ21
import Derived.Test.YtnbccoelbfgmgaaGreatDoorZ23
import Derived.Test.YtnbccoelbfgmgaaGreatDoorZ18
namespace Go.Proofs.YtnbccoelbfgmgaaGreatDoor
open Go.RowKit Go.Lib
set_option linter.unusedVariables false
set_option linter.unusedSimpArgs false
/-- A fact that hangs on the blocks of S alone. -/
structure Hold (P : World → Prop) (S : Nat → Prop) (w : World) : Prop where
  at_ : P w
  kp : ∀ w', Only (fun k => ¬ S k) w w' → P w'
theorem Hold.only {P : World → Prop} {S Z : Nat → Prop} {w w' : World} (h : Hold P S w) (ho : Only Z w w') (hd : ∀ k, S k → ¬ Z k) : Hold P S w' := by
  have h1 : Only (fun k => ¬ S k) w w' := ho.mono (fun k hz hs => hd k hs hz)
  exact ⟨h.kp w' h1, fun w'' h2 => h.kp w'' (h1.trans h2)⟩
theorem Hold.up {P : World → Prop} {S : Nat → Prop} {w w' : World} (h : Hold P S w) (hb : Below w.heap.size w w') : Hold P S w' :=
  h.only (Z := fun _ => False) (Only.of_below hb) (fun _ _ e => e)
/-! ### the example -/
def csA : List Nat := [97, 98, 99, 10, 100, 101, 102, 103]
def rowsA : List Row3 := [(2, 4, 0), (6, 8, 0)]
def pA (j : Nat) : Nat := if j = 0 then 1 else 5
theorem rowsA_is : (List.range (1 + 1)).map (fun j => rowAt csA 1 9 8 1 3 (pA j)) = rowsA := by decide +kernel
theorem colA2 : colN widN csA 8 (lineB csA 1 2) 2 = 1 := by decide +kernel
theorem colA8 : colN widN csA 8 (lineB csA 1 8) 8 = 3 := by decide +kernel
theorem pA_0 : pA 0 = lineB csA 1 (min 2 8) := by decide +kernel
theorem pA_M : pA 1 = lineB csA 1 (max 2 8) := by decide +kernel
theorem pA_n : ∀ j, j < 1 → pA j ≠ pA 1 := by decide
theorem pA_s : ∀ j, j < 1 → (linesF csA 1 9 1 (pA j)).1 = pA (j + 1) := by decide +kernel
theorem pA_l : ∀ j, j ≤ 1 → 1 ≤ pA j ∧ pA j ≤ 9 := by decide
theorem rowsA_B : RowsB rowsA := by unfold RowsB rowsA; decide
theorem rowsA_many : manyR rowsA ≤ 65536 := by decide +kernel
theorem cutA {T : Tx} (hw : Wide T) (hc : T.cs = csA) : rowsA.map (cutS T) = [⟨#[98, 99]⟩, ⟨#[101, 102]⟩] := by
  have hlo := hw.lo; have hhi := hw.hi
  rw [hc] at hhi
  have h1 : reachB T.S 2 4 = true := reach_iff.2 ⟨by omega, by omega, by rw [hhi]; decide⟩
  have h2 : reachB T.S 6 8 = true := reach_iff.2 ⟨by omega, by omega, by rw [hhi]; decide⟩
  show [cutS T (2, 4, 0), cutS T (6, 8, 0)] = _
  unfold cutS textV
  dsimp only
  rw [if_pos h1, if_pos h2, hc]
  decide +kernel
/-- Erasing it. -/
theorem erA {T : Tx} (hw : Wide T) (hc : T.cs = csA) : (erF T rowsA).1 = 0 ∧ (erF T rowsA).2.cs = [97, 10, 100, 103] ∧ Wide (erF T rowsA).2 := by
  have hd1 := delE_wide hw (x := 6) (y := 8) (by omega) (by omega) (by rw [hc]; decide)
  have w1 := hw.take (x := 6) (y := 8) (by omega) (by omega) (by rw [hc]; decide)
  have c1 : (takeT T 6 8).cs = [97, 98, 99, 10, 100, 103] := by rw [takeT_cs, hc]; decide
  have hd2 := delE_wide w1 (x := 2) (y := 4) (by omega) (by omega) (by rw [c1]; decide)
  have w2 := w1.take (x := 2) (y := 4) (by omega) (by omega) (by rw [c1]; decide)
  have c2 : (takeT (takeT T 6 8) 2 4).cs = [97, 10, 100, 103] := by rw [takeT_cs, c1]; decide
  have e1 : erF T [((6 : Int), (8 : Int), (0 : Int))] = (0, takeT T 6 8) := by
    rw [erF_cons T _ [] rfl]
    show (delE T ((6 : Nat) : Int) ((8 : Nat) : Int), if delE T ((6 : Nat) : Int) ((8 : Nat) : Int) = 0 then takeT T 6 8 else T) = _
    rw [hd1, if_pos rfl]
  have e2 : erF T rowsA = (0, takeT (takeT T 6 8) 2 4) := by
    show erF T ((2, 4, 0) :: [((6 : Int), (8 : Int), (0 : Int))]) = _
    rw [erF_cons T _ _ (by rw [e1]), e1]
    show (delE (takeT T 6 8) ((2 : Nat) : Int) ((4 : Nat) : Int), if delE (takeT T 6 8) ((2 : Nat) : Int) ((4 : Nat) : Int) = 0 then takeT (takeT T 6 8) 2 4 else takeT T 6 8) = _
    rw [hd2, if_pos rfl]
  rw [e2]
  exact ⟨rfl, c2, w2⟩
/-- Pasting three rows into what is left. -/
def ssA : List ByteArray := [⟨#[88]⟩, ⟨#[89]⟩, ⟨#[90]⟩]
theorem putW {T : Tx} (hw : Wide T) {a : Nat} {s : ByteArray} {cs ds : List Nat} (hc : T.cs = cs) (h1 : 1 ≤ a) (ha : a ≤ cs.length + 1) (hv : (charsD s.data.toList).isSome = true) (hl : cs.length + (chrs s).length ≤ 1000) (hd : insC cs a (chrs s) = ds) :
    putEr T a s = 0 ∧ Wide (putX T a s) ∧ (putX T a s).cs = ds := by
  obtain ⟨e1, e2⟩ := putX_ok hw h1 (by rw [hc]; exact ha) hv (by rw [hc]; omega)
  rw [e2]
  exact ⟨e1, hw.put h1 (by rw [hc]; exact ha), by rw [putT_cs, hc, hd]⟩
theorem paA {T : Tx} (hw : Wide T) (hc : T.cs = [97, 10, 100, 103]) : (pasteF 8 1 T 2 ssA).1 = 0 ∧ (pasteF 8 1 T 2 ssA).2.1.cs = [97, 88, 10, 100, 89, 103, 10, 32, 90] ∧ Wide (pasteF 8 1 T 2 ssA).2.1 := by
  obtain ⟨x1, w1, c1⟩ := putW hw (a := 2) (s := ⟨#[88]⟩) hc (by omega) (by decide) (by decide +kernel) (by decide +kernel) (ds := [97, 88, 10, 100, 103]) (by decide +kernel)
  have p1 : paste1 8 1 T 2 ⟨#[88]⟩ = (0, putX T 2 ⟨#[88]⟩, 2) := by
    rw [paste1_full (q := 2) (n := 1) (by rw [hw.lo, hw.hi, hc]; decide +kernel) (by rw [hw.lo, hc]; decide +kernel) (Nat.lt_irrefl 1), x1]
  generalize putX T 2 ⟨#[88]⟩ = T1 at *
  obtain ⟨x2, w2, c2⟩ := putW w1 (a := 5) (s := ⟨#[89]⟩) c1 (by omega) (by decide) (by decide +kernel) (by decide +kernel) (ds := [97, 88, 10, 100, 89, 103]) (by decide +kernel)
  have n1 : pasteN T1 2 = (0, T1, 4) := pasteN_zero T1 2 (nx := 4) (lf := 0) (by rw [w1.lo, w1.hi, c1]; decide +kernel) (Nat.lt_irrefl 0)
  have p2 : paste2 8 1 T1 2 ⟨#[89]⟩ = (0, putX T1 5 ⟨#[89]⟩, 5) := by
    rw [paste2_ok 8 1 T1 2 _ n1, paste1_full (q := 5) (n := 1) (by rw [w1.lo, w1.hi, c1]; decide +kernel) (by rw [w1.lo, c1]; decide +kernel) (Nat.lt_irrefl 1), x2]
  generalize putX T1 5 ⟨#[89]⟩ = T2 at *
  obtain ⟨x3, w3, c3⟩ := putW w2 (a := 7) (s := ⟨#[10]⟩) c2 (by omega) (by decide) (by decide +kernel) (by decide +kernel) (ds := [97, 88, 10, 100, 89, 103, 10]) (by decide +kernel)
  have n2 : pasteN T2 5 = (0, putX T2 7 ⟨#[10]⟩, 8) := pasteN_put T2 5 (nx := 7) (lf := 1) (by rw [w2.lo, w2.hi, c2]; decide +kernel) (by omega) x3
  generalize putX T2 7 ⟨#[10]⟩ = T3 at *
  obtain ⟨x4, w4, c4⟩ := putW w3 (a := 8) (s := repB 32 1) c3 (by omega) (by decide) (by decide +kernel) (by decide +kernel) (ds := [97, 88, 10, 100, 89, 103, 10, 32]) (by decide +kernel)
  obtain ⟨x5, w5, c5⟩ := putW w4 (a := 9) (s := ⟨#[90]⟩) c4 (by omega) (by decide) (by decide +kernel) (by decide +kernel) (ds := [97, 88, 10, 100, 89, 103, 10, 32, 90]) (by decide +kernel)
  have p3 : paste2 8 1 T2 5 ⟨#[90]⟩ = (0, putX (putX T3 8 (repB 32 1)) 9 ⟨#[90]⟩, 9) := by
    rw [paste2_ok 8 1 T2 5 _ n2, paste1_pad (q := 8) (n := 0) (by rw [w3.lo, w3.hi, c3]; decide +kernel) (by rw [w3.lo, c3]; decide +kernel) Nat.zero_lt_one x4]
    show (putEr (putX T3 8 (repB 32 1)) ((9 : Nat) : Int) ⟨#[90]⟩, putX (putX T3 8 (repB 32 1)) 9 ⟨#[90]⟩, 9) = _
    rw [x5]
  have hf : pasteF 8 1 T 2 ssA = (0, putX (putX T3 8 (repB 32 1)) 9 ⟨#[90]⟩, 9) := by
    show pasteR 8 1 (paste1 8 1 T 2 ⟨#[88]⟩) [⟨#[89]⟩, ⟨#[90]⟩] = _
    rw [p1]
    show (if (0 : Int) = 0 then pasteR 8 1 (paste2 8 1 T1 2 ⟨#[89]⟩) [⟨#[90]⟩] else _) = _
    rw [if_pos rfl, p2]
    show (if (0 : Int) = 0 then pasteR 8 1 (paste2 8 1 T2 5 ⟨#[90]⟩) [] else _) = _
    rw [if_pos rfl, p3]; rfl
  rw [hf]
  exact ⟨rfl, c5, w5⟩
/-! ### the wide text -/
def csW (m : Nat) : List Nat := List.replicate m 10 ++ [9, 9, 9, 9]
def rowsW (m : Nat) : List Row3 := (List.range (m + 1)).map fun j => if j < m then ((j + 1 : Nat), (j + 1 : Nat), 256) else ((m + 1 : Nat), (m + 5 : Nat), 0)
theorem rowsW_1 : (List.range (255 + 1)).map (fun j => rowAt (csW 255) 1 260 64 0 256 (j + 1)) = rowsW 255 := by decide +kernel
theorem rowsW_2 : (List.range (256 + 1)).map (fun j => rowAt (csW 256) 1 261 64 0 256 (j + 1)) = rowsW 256 := by decide +kernel
theorem colW_1 : colN widN (csW 255) 64 (lineB (csW 255) 1 1) 1 = 0 ∧ colN widN (csW 255) 64 (lineB (csW 255) 1 260) 260 = 256 ∧ 1 = lineB (csW 255) 1 (min 1 260) ∧ 256 = lineB (csW 255) 1 (max 1 260) := by decide +kernel
theorem colW_2 : colN widN (csW 256) 64 (lineB (csW 256) 1 1) 1 = 0 ∧ colN widN (csW 256) 64 (lineB (csW 256) 1 261) 261 = 256 ∧ 1 = lineB (csW 256) 1 (min 1 261) ∧ 257 = lineB (csW 256) 1 (max 1 261) := by decide +kernel
theorem stepW_1 : ∀ j, j < 255 → (linesF (csW 255) 1 260 1 (j + 1)).1 = j + 1 + 1 := by decide +kernel
theorem stepW_2 : ∀ j, j < 256 → (linesF (csW 256) 1 261 1 (j + 1)).1 = j + 1 + 1 := by decide +kernel
theorem manyW_1 : manyR (rowsW 255) ≤ 65536 := by decide +kernel
theorem manyW_2 : 65536 < manyR (rowsW 256) := by decide +kernel
theorem rowsW_B (m : Nat) (hm : m ≤ 256) : RowsB (rowsW m) := by
  refine ⟨by simp [rowsW]; omega, fun r hr => ?_⟩
  obtain ⟨j, hj, rfl⟩ := List.mem_map.1 hr
  have := List.mem_range.1 hj
  split <;> dsimp only <;> omega
end Go.Proofs.YtnbccoelbfgmgaaGreatDoor
