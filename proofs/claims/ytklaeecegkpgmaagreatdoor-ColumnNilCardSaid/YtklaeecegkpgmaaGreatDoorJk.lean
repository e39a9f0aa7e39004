import Derived.Test.YtklaeecegkpgmaaGreatDoorJa
import Derived.Laws.OwnMore
import Derived.Test.YtklaeecegkpgmaaGreatDoorJd
import Derived.BigRegion
import Derived.RegionTactic
import Derived.ChangeAlike
/- Slices of the call's own: where one lies; a cell of one element stored. -/
namespace Go.Proofs.YtklaeecegkpgmaaGreatDoor
open Go.RowKit
set_option linter.unusedVariables false
section
variable {α : Type} {enc : α → List Value} {T E k by_ B : Nat} {z : Value} {w w' : World} {A : Option Addr} {zs xs ys : List α} {v : Value}
theorem cellsL_set (hl : ∀ x, (enc x).length = k) {j : Nat} {u : Value} {y : α} (hj : j < k) : ∀ (xs : List α) (i : Nat) (x : α), xs[i]? = some x → enc y = (enc x).set j u → cellsL enc (xs.set i y) = (cellsL enc xs).set (i * k + j) u
  | [], i, x, h, _ => by simp at h
  | a :: xs, 0, x, h, he => by
    simp at h
    subst h
    rw [List.set_cons_zero, cellsL_cons, cellsL_cons, he, Nat.zero_mul, Nat.zero_add, List.set_append_left _ _ (by rw [hl]; exact hj)]
  | a :: xs, i + 1, x, h, he => by
    have h' : xs[i]? = some x := by simpa using h
    rw [List.set_cons_succ, cellsL_cons, cellsL_cons, cellsL_set hl hj xs i x h' he, List.set_append_right _ _ (by rw [hl, Nat.add_mul]; omega), hl, show (i + 1) * k + j - k = i * k + j by rw [Nat.add_mul]; omega]
/-- A slice of the call's own that is not empty: where it lies. -/
theorem ROwn.lies (I : Elt enc T E k by_ z) (h : ROwn enc E k B w v zs) (hp : 0 < zs.length) : ∃ g cap, v = .slice (some ⟨g, 0, none⟩) zs.length cap ∧ zs.length ≤ cap ∧ cap ≤ maxLen ∧ B ≤ g ∧ g < w.heap.size ∧ (∀ j, j < zs.length * k → w.frozen? ⟨g, j, none⟩ = false) ∧
    ∀ (i : Nat) (x : α) (j : Nat) (u : Value), zs[i]? = some x → (enc x)[j]? = some u → w.cell? ⟨g, i * k + j, none⟩ = some u := by
  have hs := h.shape I
  rcases h.2 with ⟨rfl, h0⟩ | ⟨g, cap, cur, rfl, hb, hg, hnc, hcm, hsz, htk⟩
  · omega
  · refine ⟨g, cap, rfl, hnc, hcm, hb, (Array.getElem?_eq_some_iff.1 hg).1, fun j hj => by simp [World.frozen?, hg], fun i x j u hi hu => ?_⟩
    obtain ⟨A, cp, e, _, _, hR⟩ := hs
    cases e
    obtain ⟨g', o, e, _, hc⟩ := hR.at_ I hi
    cases e
    have := hc j u hu
    rwa [Nat.zero_add] at this
theorem ROwn.put (I : Elt enc T E k by_ z) {g cap : Nat} (h : ROwn enc E k B w (.slice (some ⟨g, 0, none⟩) xs.length cap) xs) {i j : Nat} {x y : α} {u : Value} (hi : xs[i]? = some x) (hj : j < k) (he : enc y = (enc x).set j u) :
    ROwn enc E k B (w.setCell ⟨g, i * k + j, none⟩ u) (.slice (some ⟨g, 0, none⟩) xs.length cap) (xs.set i y) := by
  have := (World.ownsRow.stored h (i * k + j) u).1
  unfold ROwn
  rw [List.length_set, cellsL_set I.len hj xs i x hi he]
  exact this
end
section
variable {α : Type} {enc : α → List Value} {T E k by_ B : Nat} {z : Value} {w w' : World} {A : Option Addr} {zs xs ys : List α} {v : Value}
theorem ROwn.emptyAt {g : Nat} (hg : w.heap[g]? = some (.cells #[] E (0, 0))) (hB : B ≤ g) : ROwn enc E k B w (.slice (some ⟨g, 0, none⟩) 0 0) [] :=
  ⟨by simp [cellsL], .inr ⟨g, 0, #[], rfl, hB, hg, by simp, by simp, by simp, by simp [cellsL]⟩⟩
theorem RSl.oneAt {g : Nat} {x : α} {cs : Array Value} {f : Nat × Nat} (hg : w.heap[g]? = some (.cells cs E f)) (he : cs = (enc x).toArray) : RSl enc w (some ⟨g, 0, none⟩) [x] := by
  subst he
  intro _
  refine ⟨g, 0, rfl, (Array.getElem?_eq_some_iff.1 hg).1, fun j u hu => ?_⟩
  simp only [cellsL, List.flatMap_cons, List.flatMap_nil, List.append_nil] at hu
  simp only [World.cell?, hg, Nat.zero_add]
  simpa using hu
theorem al1 (w : World) (a : Obj) : (w.alloc a).drew.heap[w.heap.size]? = some a := (MapKept.heap_alloc w a).1
theorem al2a (w : World) (a b : Obj) : ((w.alloc a).alloc b).drew.heap[w.heap.size]? = some a := ((MapKept.heap_alloc (w.alloc a) b).2 _ (by simp)).trans (MapKept.heap_alloc w a).1
theorem al2b (w : World) (a b : Obj) : ((w.alloc a).alloc b).drew.heap[w.heap.size + 1]? = some b := by
  have := (MapKept.heap_alloc (w.alloc a) b).1
  have e : (w.alloc a).heap.size = w.heap.size + 1 := by simp
  rw [e] at this
  exact this
/-- At a step of a region that draws: an append onto a slice of the region's own. -/
theorem step_appW {w0 w : World} {ops : Array Oper} {o : Oper} {a : Act} {K : Act → World → Prop} {Q : Exit → Act → World → Prop} {C : Prop} {n c : Nat} (I : Elt enc T E k by_ z) (hby : by_ ≤ 100000) (hgd : o.guard = none) (s x : Operand)
    (ho : o.op = .call { callee := .builtin .append, args := #[s, x], argTypes := #[T, T] }) (hs : a.eval s = v) (hown : ROwn enc E k w0.heap.size w v xs) (hbel : Below w0.heap.size w0 w)
    (hx : a.eval x = .slice A n c) (hn : n = ys.length) (hsrc : RSl enc w A ys) (hlen : xs.length + ys.length ≤ 1000000000)
    (h : ∀ v' w', ROwn enc E k w0.heap.size w' v' (xs ++ ys) → Below w0.heap.size w0 w' → (∀ g, g < w.heap.size → v.ownBlock ≠ some g → w'.heap[g]? = w.heap[g]?) → K (a.put o.dst v') w') : if Region.wanted o (yielded ops a.tmps) = true then Oper.wp Tryz.prog o a w K Q else C := by
  have hw : Region.wanted o (yielded ops a.tmps) = true := by simp [Region.wanted, hgd]
  rw [if_pos hw]
  subst hn
  obtain ⟨v', w', hr, h2, h3, h4⟩ := append_run I hown hbel.size hsrc c hlen hby
  unfold Oper.wp execOp
  simp only [ho, resolve, invoke, builtin, Sem.run_bind, Sem.run_pure, Result.andThen_ok, List.map_toArray, List.map_cons, List.map_nil, hs, hx, hr]
  exact h v' w' h2 (hbel.grown h3 hbel.size (fun k hk => hown.base hk)) (fun g hg hne => h3.block g hg (fun e => hne e.symm))
end
end Go.Proofs.YtklaeecegkpgmaaGreatDoor
/- package undo: none, Check, price (the kinds Clean, Point, Insert). -/
namespace Go.Proofs.YtklaeecegkpgmaaGreatDoor
open Go.RowKit
set_option linter.unusedVariables false
set_option linter.unusedSimpArgs false
/-- The fields that must be valid, kind by kind, as they are laid. -/
def ruleB (j : Nat) : Bool := [4, 5, 8, 11, 12, 16, 20, 21, 22].contains j
def Rules (N : Nat) (w : World) : Prop := 3 < N ∧ ∀ j, j < 28 → w.cell? ⟨3, j, none⟩ = some (.bool (ruleB j))
theorem Rules.lt {N : Nat} {w : World} (h : Rules N w) : 3 < w.heap.size := lt_of_cell (h.2 0 (by omega))
theorem Rules.up {N : Nat} {w w' : World} (h : Rules N w) (hb : Below w.heap.size w w') : Rules N w' := ⟨h.1, fun j hj => (World.cell?_of_block (w := w) (a := ⟨3, j, none⟩) (hb.block 3 h.lt)).trans (h.2 j hj)⟩
theorem Rules.only {N : Nat} {Z : Nat → Prop} {w w' : World} (h : Rules N w) (ho : Only Z w w') (hz : ∀ k, Z k → N ≤ k) : Rules N w' :=
  ⟨h.1, fun j hj => (World.cell?_of_block (w := w) (a := ⟨3, j, none⟩) (ho.block 3 h.lt (fun hk => by have := hz _ hk; have := h.1; omega))).trans (h.2 j hj)⟩
/-- A change of one of the three kinds that an insertion logs. -/
abbrev chC (x : Int × Int × Int) : List Value := [.int .i64 x.1, .int .i64 x.2.1, .int .i64 x.2.2, .int .i64 0, .int .i64 0, .string ⟨#[]⟩, .int .i64 0, .int .i64 0, .bool false]
abbrev chV (x : Int × Int × Int) : Value := .agg #[.int .i64 x.1, .int .i64 x.2.1, .int .i64 x.2.2, .int .i64 0, .int .i64 0, .string ⟨#[]⟩, .int .i64 0, .int .i64 0, .bool false]
abbrev lgC (f o : Value) (c n : Int) : Array Value := #[.int .i64 1048576, f, o, .int .i64 (-1), .int .i64 c, .int .i64 n]
section
variable {w w' : World} {N l : Nat}
set_option maxHeartbeats 1000000 in
theorem unone (f o : Value) (c n : Int) (h : Blk w l 175 (lgC f o c n)) : Calls Tryz.prog 136 #[.pointer (some ⟨l, 0, none⟩)] w fun e w' => e = .returned (.bool false) ∧ w = w' := by
  have c0 := h.cell (j := 0) rfl
  clear h
  go_enter Tryz.func136, Tryz.ntmps136
  go_wp2_with fail
  go_ret
  exact ⟨rfl, rfl⟩
set_option maxHeartbeats 1000000 in
theorem uprice (k a b : Int) (hk : k = 1 ∨ k = 4 ∨ k = 6) : Calls Tryz.prog 186 #[chV (k, a, b)] w fun e w' => e = .returned (.int .i64 1) ∧ Below w.heap.size w w' := by
  have d0 : ((k : Int) == 2) = false := by rcases hk with rfl | rfl | rfl <;> rfl
  clear hk
  go_enter Tryz.func186, Tryz.ntmps186
  go_wp2_with fail
  go_ret
  exact ⟨rfl, below1 w _⟩
set_option maxHeartbeats 2000000 in
theorem ucheck6 (h : Rules N w) : Calls Tryz.prog 197 #[chV (6, 0, 0)] w fun e w' => e = .returned (.int .i64 0) ∧ Below w.heap.size w w' := by
  have b := below1 w (.cells #[.int .i64 6, .int .i64 0, .int .i64 0, .int .i64 0, .int .i64 0, .string ⟨#[]⟩, .int .i64 0, .int .i64 0, .bool false] 156)
  have q0 : _ = some (Value.bool false) := (h.up b).2 24 (by omega)
  have q1 : _ = some (Value.bool false) := (h.up b).2 25 (by omega)
  have q2 : _ = some (Value.bool false) := (h.up b).2 26 (by omega)
  have q3 : _ = some (Value.bool false) := (h.up b).2 27 (by omega)
  clear h b
  go_enter Tryz.func197, Tryz.ntmps197
  go_wp2_with fail
  all_goals (go_ret; exact ⟨rfl, (below1 w _).alloc (by simp) _⟩)
set_option maxHeartbeats 2000000 in
theorem ucheck4 (p : Nat) (h1 : 1 ≤ p) (h2 : p ≤ 1000000000) (h : Rules N w) : Calls Tryz.prog 197 #[chV (4, (p : Int), 0)] w fun e w' => e = .returned (.int .i64 0) ∧ Below w.heap.size w w' := by
  have d1 : decide ((p : Int) < 1) = false := decide_eq_false (by omega)
  have d2 : decide ((1099511627776 : Int) < (p : Int)) = false := decide_eq_false (by omega)
  clear h1 h2
  have b := below1 w (.cells #[.int .i64 4, .int .i64 (p : Int), .int .i64 0, .int .i64 0, .int .i64 0, .string ⟨#[]⟩, .int .i64 0, .int .i64 0, .bool false] 156)
  have q0 : _ = some (Value.bool true) := (h.up b).2 16 (by omega)
  have q1 : _ = some (Value.bool false) := (h.up b).2 17 (by omega)
  have q2 : _ = some (Value.bool false) := (h.up b).2 18 (by omega)
  have q3 : _ = some (Value.bool false) := (h.up b).2 19 (by omega)
  clear h b
  go_enter Tryz.func197, Tryz.ntmps197
  go_wp2_with fail
  all_goals (go_ret; exact ⟨rfl, (below1 w _).alloc (by simp) _⟩)
set_option maxHeartbeats 2000000 in
theorem ucheck1 (p q : Nat) (h1 : 1 ≤ p) (h2 : p ≤ q) (h3 : q ≤ 1000000000) (h : Rules N w) : Calls Tryz.prog 197 #[chV (1, (p : Int), (q : Int))] w fun e w' => e = .returned (.int .i64 0) ∧ Below w.heap.size w w' := by
  have d1 : decide ((p : Int) < 1) = false := decide_eq_false (by omega)
  have d2 : decide ((1099511627776 : Int) < (p : Int)) = false := decide_eq_false (by omega)
  have d3 : (q < p) = False := by simp; omega
  have d4 : decide ((1099511627776 : Int) < (q : Int)) = false := decide_eq_false (by omega)
  clear h1 h2 h3
  have b := below1 w (.cells #[.int .i64 1, .int .i64 (p : Int), .int .i64 (q : Int), .int .i64 0, .int .i64 0, .string ⟨#[]⟩, .int .i64 0, .int .i64 0, .bool false] 156)
  have q0 : _ = some (Value.bool true) := (h.up b).2 4 (by omega)
  have q1 : _ = some (Value.bool true) := (h.up b).2 5 (by omega)
  have q2 : _ = some (Value.bool false) := (h.up b).2 6 (by omega)
  have q3 : _ = some (Value.bool false) := (h.up b).2 7 (by omega)
  clear h b
  go_enter Tryz.func197, Tryz.ntmps197
  go_wp2_with fail
  all_goals (go_ret; exact ⟨rfl, (below1 w _).alloc (by simp) _⟩)
end
end Go.Proofs.YtklaeecegkpgmaaGreatDoor
