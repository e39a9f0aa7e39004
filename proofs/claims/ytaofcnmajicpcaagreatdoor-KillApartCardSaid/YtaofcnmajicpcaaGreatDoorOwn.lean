/- Slices of the call's own: where one lies; a cell of one element stored. -/
import Derived.Test.YtaofcnmajicpcaaGreatDoorSeg
import Derived.Laws.OwnMore
namespace Go.Proofs.YtaofcnmajicpcaaGreatDoor
open Go.RowKit
set_option linter.unusedVariables false
section
variable {α : Type} {enc : α → List Value} {T E k by_ B : Nat} {z : Value} {w w' : World} {A : Option Addr} {zs xs ys : List α} {v : Value}
theorem cellsL_set (hl : ∀ x, (enc x).length = k) {j : Nat} {u : Value} {y : α} (hj : j < k) : ∀ (xs : List α) (i : Nat) (x : α), xs[i]? = some x → enc y = (enc x).set j u → cellsL enc (xs.set i y) = (cellsL enc xs).set (i * k + j) u
  | [], i, x, h, _ => by simp at h
  | a :: xs, 0, x, h, he => by
    simp at h
    subst h
    rw [List.set_cons_zero, cellsL_cons, cellsL_cons, he, Nat.zero_mul, Nat.zero_add, List.set_append_left _ _ (by rw [hl]; exact hj)]
  | a :: xs, i + 1, x, h, he => by
    have h' : xs[i]? = some x := by simpa using h
    rw [List.set_cons_succ, cellsL_cons, cellsL_cons, cellsL_set hl hj xs i x h' he, List.set_append_right _ _ (by rw [hl, Nat.add_mul]; omega), hl, show (i + 1) * k + j - k = i * k + j by rw [Nat.add_mul]; omega]
/-- A slice of the call's own that is not empty: where it lies. -/
theorem ROwn.lies (I : Elt enc T E k by_ z) (h : ROwn enc E k B w v zs) (hp : 0 < zs.length) : ∃ g cap, v = .slice (some ⟨g, 0, none⟩) zs.length cap ∧ zs.length ≤ cap ∧ cap ≤ maxLen ∧ B ≤ g ∧ g < w.heap.size ∧ (∀ j, j < zs.length * k → w.frozen? ⟨g, j, none⟩ = false) ∧
    ∀ (i : Nat) (x : α) (j : Nat) (u : Value), zs[i]? = some x → (enc x)[j]? = some u → w.cell? ⟨g, i * k + j, none⟩ = some u := by
  have hs := h.shape I
  rcases h.2 with ⟨rfl, h0⟩ | ⟨g, cap, cur, rfl, hb, hg, hnc, hcm, hsz, htk⟩
  · omega
  · refine ⟨g, cap, rfl, hnc, hcm, hb, (Array.getElem?_eq_some_iff.1 hg).1, fun j hj => by simp [World.frozen?, hg], fun i x j u hi hu => ?_⟩
    obtain ⟨A, cp, e, _, _, hR⟩ := hs
    cases e
    obtain ⟨g', o, e, _, hc⟩ := hR.at_ I hi
    cases e
    have := hc j u hu
    rwa [Nat.zero_add] at this
theorem ROwn.put (I : Elt enc T E k by_ z) {g cap : Nat} (h : ROwn enc E k B w (.slice (some ⟨g, 0, none⟩) xs.length cap) xs) {i j : Nat} {x y : α} {u : Value} (hi : xs[i]? = some x) (hj : j < k) (he : enc y = (enc x).set j u) :
    ROwn enc E k B (w.setCell ⟨g, i * k + j, none⟩ u) (.slice (some ⟨g, 0, none⟩) xs.length cap) (xs.set i y) := by
  have := (World.ownsRow.stored h (i * k + j) u).1
  unfold ROwn
  rw [List.length_set, cellsL_set I.len hj xs i x hi he]
  exact this
end
section
variable {α : Type} {enc : α → List Value} {T E k by_ B : Nat} {z : Value} {w w' : World} {A : Option Addr} {zs xs ys : List α} {v : Value}
theorem ROwn.emptyAt {g : Nat} (hg : w.heap[g]? = some (.cells #[] E (0, 0))) (hB : B ≤ g) : ROwn enc E k B w (.slice (some ⟨g, 0, none⟩) 0 0) [] :=
  ⟨by simp [cellsL], .inr ⟨g, 0, #[], rfl, hB, hg, by simp, by simp, by simp, by simp [cellsL]⟩⟩
theorem RSl.oneAt {g : Nat} {x : α} {cs : Array Value} {f : Nat × Nat} (hg : w.heap[g]? = some (.cells cs E f)) (he : cs = (enc x).toArray) : RSl enc w (some ⟨g, 0, none⟩) [x] := by
  subst he
  intro _
  refine ⟨g, 0, rfl, (Array.getElem?_eq_some_iff.1 hg).1, fun j u hu => ?_⟩
  simp only [cellsL, List.flatMap_cons, List.flatMap_nil, List.append_nil] at hu
  simp only [World.cell?, hg, Nat.zero_add]
  simpa using hu
theorem al1 (w : World) (a : Obj) : (w.alloc a).drew.heap[w.heap.size]? = some a := (MapKept.heap_alloc w a).1
theorem al2a (w : World) (a b : Obj) : ((w.alloc a).alloc b).drew.heap[w.heap.size]? = some a := ((MapKept.heap_alloc (w.alloc a) b).2 _ (by simp)).trans (MapKept.heap_alloc w a).1
theorem al2b (w : World) (a b : Obj) : ((w.alloc a).alloc b).drew.heap[w.heap.size + 1]? = some b := by
  have := (MapKept.heap_alloc (w.alloc a) b).1
  have e : (w.alloc a).heap.size = w.heap.size + 1 := by simp
  rw [e] at this
  exact this
/-- At a step of a region that draws: an append onto a slice of the region's own. -/
theorem step_appW {w0 w : World} {ops : Array Oper} {o : Oper} {a : Act} {K : Act → World → Prop} {Q : Exit → Act → World → Prop} {C : Prop} {n c : Nat} (I : Elt enc T E k by_ z) (hby : by_ ≤ 100000) (hgd : o.guard = none) (s x : Operand)
    (ho : o.op = .call { callee := .builtin .append, args := #[s, x], argTypes := #[T, T] }) (hs : a.eval s = v) (hown : ROwn enc E k w0.heap.size w v xs) (hbel : Below w0.heap.size w0 w)
    (hx : a.eval x = .slice A n c) (hn : n = ys.length) (hsrc : RSl enc w A ys) (hlen : xs.length + ys.length ≤ 1000000000)
    (h : ∀ v' w', ROwn enc E k w0.heap.size w' v' (xs ++ ys) → Below w0.heap.size w0 w' → (∀ g, g < w.heap.size → v.ownBlock ≠ some g → w'.heap[g]? = w.heap[g]?) → K (a.put o.dst v') w') : if Region.wanted o (yielded ops a.tmps) = true then Oper.wp Tryz.prog o a w K Q else C := by
  have hw : Region.wanted o (yielded ops a.tmps) = true := by simp [Region.wanted, hgd]
  rw [if_pos hw]
  subst hn
  obtain ⟨v', w', hr, h2, h3, h4⟩ := append_run I hown hbel.size hsrc c hlen hby
  unfold Oper.wp execOp
  simp only [ho, resolve, invoke, builtin, Sem.run_bind, Sem.run_pure, Result.andThen_ok, List.map_toArray, List.map_cons, List.map_nil, hs, hx, hr]
  exact h v' w' h2 (hbel.grown h3 hbel.size (fun k hk => hown.base hk)) (fun g hg hne => h3.block g hg (fun e => hne e.symm))
end
end Go.Proofs.YtaofcnmajicpcaaGreatDoor
