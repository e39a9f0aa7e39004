/- append(append(append([]T{}, s[:k]...), x), s[k:]...) and append(append([]T{}, s[:k]...), s[j:]...): the runs, in whatever order the two new slices are made. -/
import Derived.Test.YtaofcnmajicpcaaGreatDoorOwn
import Derived.Test.YtaofcnmajicpcaaGreatDoorMixT
namespace Go.Proofs.YtaofcnmajicpcaaGreatDoor
open Go.RowKit
set_option linter.unusedVariables false
section
variable {α : Type} {enc : α → List Value} {T E kk by_ B : Nat} {z : Value} {w : World} {A : Option Addr} {l : List α}
/-- The run of an append of two slices. -/
def AppRun (T : Nat) (v u : Value) (w : World) (v' : Value) (w' : World) : Prop := ∀ ty, (Builtin.append_ #[T, T] ty #[v, u]).run Tryz.prog w = .ok v' w'
theorem app_next (I : Elt enc T E kk by_ z) {w0 w1 : World} {v : Value} {xs ys : List α} {n c : Nat} (hown : ROwn enc E kk w0.heap.size w1 v xs) (hb : Below w0.heap.size w0 w1) (hs : RSl enc w1 A ys) (hn : n = ys.length) (hl : xs.length + ys.length ≤ 1000000000) (hby : by_ ≤ 100000) :
    ∃ v' w', AppRun T v (.slice A n c) w1 v' w' ∧ ROwn enc E kk w0.heap.size w' v' (xs ++ ys) ∧ Below w0.heap.size w0 w' ∧ (∀ g, g < w1.heap.size → v.ownBlock ≠ some g → w'.heap[g]? = w1.heap[g]?) ∧ w1.heap.size ≤ w'.heap.size := by
  subst hn
  obtain ⟨v', w', hr, h2, h3, h4⟩ := append_run I hown hb.size hs c hl hby
  exact ⟨v', w', hr, h2, hb.grown h3 hb.size (fun k hk => hown.base hk), fun g hg hne => h3.block g hg (fun e => hne e.symm), h3.size⟩
/-- Where the tail of a slice lies. -/
abbrev tailA (A : Option Addr) (cl k kk : Nat) : Option Addr := if cl = k then A else A.map (·.add (k * kk))
theorem insA (I : Elt enc T E kk by_ z) (hby : by_ ≤ 100000) {cl k : Nat} {x : α} (hs : RSl enc w A l) (hcl : l.length ≤ cl) (hk : k ≤ l.length) (hl : l.length ≤ 100000000) :
    ∃ v7 w7 v8 w8 v9 w9, AppRun T (.slice (some ⟨w.heap.size, 0, none⟩) 0 0) (.slice A k cl) (w.alloc (.cells #[] E)).drew v7 w7 ∧ AppRun T v7 (.slice (some ⟨w7.heap.size, 0, none⟩) 1 1) (w7.alloc (.cells (enc x).toArray E)) v8 w8 ∧
      AppRun T v8 (.slice (tailA A cl k kk) (l.length - k) (cl - k)) w8 v9 w9 ∧ ROwn enc E kk w.heap.size w9 v9 (l.take k ++ [x] ++ l.drop k) ∧ Below w.heap.size w w7 ∧ Below w.heap.size w w8 ∧ Below w.heap.size w w9 := by
  have hb0 : Below w.heap.size w (w.alloc (.cells #[] E)).drew := (below1 w _).drew
  obtain ⟨v7, w7, r7, o7, b7, k7, s7⟩ := app_next (c := cl) I (ROwn.emptyAt (enc := enc) (k := kk) (B := w.heap.size) (al1 w _) (Nat.le_refl _)) hb0 ((hs.up hb0).take I k) (n := k) (by simp; omega) (by simp; omega) hby
  obtain ⟨v8, w8, r8, o8, b8, k8, s8⟩ := app_next (c := 1) I (o7.up (below1 w7 (.cells (enc x).toArray E))) (b7.alloc b7.size _) (RSl.oneAt (x := x) (MapKept.heap_alloc w7 _).1 rfl) (n := 1) rfl (by simp; omega) hby
  obtain ⟨v9, w9, r9, o9, b9, k9, s9⟩ := app_next (c := cl - k) I o8 b8 ((hs.up b8).drop I hk hcl) (n := l.length - k) (by simp) (by simp; omega) hby
  rw [List.nil_append] at o9
  exact ⟨v7, w7, v8, w8, v9, w9, r7, r8, r9, o9, b7, b8, b9⟩
theorem insB (I : Elt enc T E kk by_ z) (hby : by_ ≤ 100000) {cl k : Nat} {x : α} (hs : RSl enc w A l) (hcl : l.length ≤ cl) (hk : k ≤ l.length) (hl : l.length ≤ 100000000) :
    ∃ v7 w7 v8 w8 v9 w9, AppRun T (.slice (some ⟨w.heap.size, 0, none⟩) 0 0) (.slice A k cl) ((w.alloc (.cells #[] E)).alloc (.cells (enc x).toArray E)).drew v7 w7 ∧ AppRun T v7 (.slice (some ⟨w.heap.size + 1, 0, none⟩) 1 1) w7 v8 w8 ∧
      AppRun T v8 (.slice (tailA A cl k kk) (l.length - k) (cl - k)) w8 v9 w9 ∧ ROwn enc E kk w.heap.size w9 v9 (l.take k ++ [x] ++ l.drop k) ∧ Below w.heap.size w w7 ∧ Below w.heap.size w w8 ∧ Below w.heap.size w w9 := by
  have hb0 : Below w.heap.size w ((w.alloc (.cells #[] E)).alloc (.cells (enc x).toArray E)).drew := (up2 (below1 w _) (below1 _ _)).drew
  obtain ⟨v7, w7, r7, o7, b7, k7, s7⟩ := app_next (c := cl) I (ROwn.emptyAt (enc := enc) (k := kk) (B := w.heap.size) (al2a w _ _) (Nat.le_refl _)) hb0 ((hs.up hb0).take I k) (n := k) (by simp; omega) (by simp; omega) hby
  have h1 := (k7 (w.heap.size + 1) (by simp) (by simp [Value.ownBlock])).trans (al2b w _ _)
  obtain ⟨v8, w8, r8, o8, b8, k8, s8⟩ := app_next (c := 1) I o7 b7 (RSl.oneAt (x := x) h1 rfl) (n := 1) rfl (by simp; omega) hby
  obtain ⟨v9, w9, r9, o9, b9, k9, s9⟩ := app_next (c := cl - k) I o8 b8 ((hs.up b8).drop I hk hcl) (n := l.length - k) (by simp) (by simp; omega) hby
  rw [List.nil_append] at o9
  exact ⟨v7, w7, v8, w8, v9, w9, r7, r8, r9, o9, b7, b8, b9⟩
theorem insC (I : Elt enc T E kk by_ z) (hby : by_ ≤ 100000) {cl k : Nat} {x : α} (hs : RSl enc w A l) (hcl : l.length ≤ cl) (hk : k ≤ l.length) (hl : l.length ≤ 100000000) :
    ∃ v7 w7 v8 w8 v9 w9, AppRun T (.slice (some ⟨w.heap.size + 1, 0, none⟩) 0 0) (.slice A k cl) ((w.alloc (.cells (enc x).toArray E)).alloc (.cells #[] E)).drew v7 w7 ∧ AppRun T v7 (.slice (some ⟨w.heap.size, 0, none⟩) 1 1) w7 v8 w8 ∧
      AppRun T v8 (.slice (tailA A cl k kk) (l.length - k) (cl - k)) w8 v9 w9 ∧ ROwn enc E kk w.heap.size w9 v9 (l.take k ++ [x] ++ l.drop k) ∧ Below w.heap.size w w7 ∧ Below w.heap.size w w8 ∧ Below w.heap.size w w9 := by
  have hb0 : Below w.heap.size w ((w.alloc (.cells (enc x).toArray E)).alloc (.cells #[] E)).drew := (up2 (below1 w _) (below1 _ _)).drew
  obtain ⟨v7, w7, r7, o7, b7, k7, s7⟩ := app_next (c := cl) I (ROwn.emptyAt (enc := enc) (k := kk) (B := w.heap.size) (al2b w _ _) (by omega)) hb0 ((hs.up hb0).take I k) (n := k) (by simp; omega) (by simp; omega) hby
  have h1 := (k7 w.heap.size (by simp; omega) (by simp [Value.ownBlock])).trans (al2a w _ _)
  obtain ⟨v8, w8, r8, o8, b8, k8, s8⟩ := app_next (c := 1) I o7 b7 (RSl.oneAt (x := x) h1 rfl) (n := 1) rfl (by simp; omega) hby
  obtain ⟨v9, w9, r9, o9, b9, k9, s9⟩ := app_next (c := cl - k) I o8 b8 ((hs.up b8).drop I hk hcl) (n := l.length - k) (by simp) (by simp; omega) hby
  rw [List.nil_append] at o9
  exact ⟨v7, w7, v8, w8, v9, w9, r7, r8, r9, o9, b7, b8, b9⟩
/-- s[:i] and s[j:] joined in a new slice. -/
theorem delA (I : Elt enc T E kk by_ z) (hby : by_ ≤ 100000) {cl i j : Nat} (hs : RSl enc w A l) (hcl : l.length ≤ cl) (hi : i ≤ l.length) (hj : j ≤ l.length) (hl : l.length ≤ 100000000) :
    ∃ v7 w7 v8 w8, AppRun T (.slice (some ⟨w.heap.size, 0, none⟩) 0 0) (.slice A i cl) (w.alloc (.cells #[] E)).drew v7 w7 ∧ AppRun T v7 (.slice (tailA A cl j kk) (l.length - j) (cl - j)) w7 v8 w8 ∧
      ROwn enc E kk w.heap.size w8 v8 (l.take i ++ l.drop j) ∧ Below w.heap.size w w7 ∧ Below w.heap.size w w8 := by
  have hb0 : Below w.heap.size w (w.alloc (.cells #[] E)).drew := (below1 w _).drew
  obtain ⟨v7, w7, r7, o7, b7, k7, s7⟩ := app_next (c := cl) I (ROwn.emptyAt (enc := enc) (k := kk) (B := w.heap.size) (al1 w _) (Nat.le_refl _)) hb0 ((hs.up hb0).take I i) (n := i) (by simp; omega) (by simp; omega) hby
  obtain ⟨v8, w8, r8, o8, b8, k8, s8⟩ := app_next (c := cl - j) I o7 b7 ((hs.up b7).drop I hj hcl) (n := l.length - j) (by simp) (by simp; omega) hby
  rw [List.nil_append] at o8
  exact ⟨v7, w7, v8, w8, r7, r8, o8, b7, b8⟩
end
end Go.Proofs.YtaofcnmajicpcaaGreatDoor
