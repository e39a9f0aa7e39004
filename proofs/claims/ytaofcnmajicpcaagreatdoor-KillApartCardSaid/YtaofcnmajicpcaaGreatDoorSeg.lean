/- Slices of elements of whatever number of cells: read as a list (nil let in); owned; append to an owned one from whatever source. -/
import Derived.Test.YtaofcnmajicpcaaGreatDoorUp
import Derived.Maps.AppendAt
import Derived.Deep.AppendLies
import Derived.Deep.RegionLaw
namespace Go.Proofs.YtaofcnmajicpcaaGreatDoor
open Go.RowKit
set_option linter.unusedVariables false

/-- What is known of an element type: the slice's type T, the element's E, its cells, bytes, zero. -/
structure Elt {α : Type} (enc : α → List Value) (T E k by_ : Nat) (z : Value) : Prop where
  ht : Tryz.prog.underlying T = some (.slice E)
  info : (Tryz.prog.info? E).map (fun i => (i.zero, i.size, i.bytes)) = some (some z, k, by_)
  zs : z.cells.size = k
  k0 : 0 < k
  len : ∀ x, (enc x).length = k
  one : ∀ x, ∀ u ∈ enc x, u.oneCell' = true

section
variable {α : Type} (enc : α → List Value) (E k : Nat)
def cellsL (xs : List α) : List Value := xs.flatMap enc
/-- The slice '.slice A n c' reads as zs. -/
def RSl (w : World) (A : Option Addr) (zs : List α) : Prop := 0 < zs.length → ∃ g o, A = some ⟨g, o, none⟩ ∧ g < w.heap.size ∧ ∀ j u, (cellsL enc zs)[j]? = some u → w.cell? ⟨g, o + j, none⟩ = some u
/-- The slice value v is nil, or lies alone in a block of its own; it holds zs; the block is number B or later. -/
def ROwn (B : Nat) (w : World) (v : Value) (zs : List α) : Prop := w.ownsRow B E k v zs.length (cellsL enc zs)
end

section
variable {α : Type} {enc : α → List Value} {T E k by_ B : Nat} {z : Value} {w w' : World} {A : Option Addr} {zs xs ys : List α} {v : Value}

theorem cellsL_nil : cellsL enc [] = [] := rfl
theorem cellsL_append (xs ys : List α) : cellsL enc (xs ++ ys) = cellsL enc xs ++ cellsL enc ys := by simp [cellsL]
theorem cellsL_cons (x : α) (ys : List α) : cellsL enc (x :: ys) = enc x ++ cellsL enc ys := by simp [cellsL]
theorem cellsL_length (hl : ∀ x, (enc x).length = k) : ∀ xs : List α, (cellsL enc xs).length = xs.length * k
  | [] => by simp [cellsL]
  | x :: xs => by rw [cellsL_cons, List.length_append, hl, cellsL_length hl xs, List.length_cons, Nat.add_mul]; omega
theorem cellsL_at (hl : ∀ x, (enc x).length = k) : ∀ (xs : List α) (i : Nat) (x : α) (j : Nat), xs[i]? = some x → j < k → (cellsL enc xs)[i * k + j]? = (enc x)[j]?
  | [], i, x, j, h, _ => by simp at h
  | y :: ys, 0, x, j, h, hj => by
    simp at h
    subst h
    rw [cellsL_cons, Nat.zero_mul, Nat.zero_add, List.getElem?_append_left (by rw [hl]; exact hj)]
  | y :: ys, i + 1, x, j, h, hj => by
    have h' : ys[i]? = some x := by simpa using h
    rw [cellsL_cons, List.getElem?_append_right (by rw [hl, Nat.add_mul]; omega), hl, show (i + 1) * k + j - k = i * k + j by rw [Nat.add_mul]; omega]
    exact cellsL_at hl ys i x j h' hj
theorem cellsL_take (hl : ∀ x, (enc x).length = k) (xs : List α) (n : Nat) (hn : n ≤ xs.length) : cellsL enc (xs.take n) = (cellsL enc xs).take (n * k) := by
  have e : cellsL enc xs = cellsL enc (xs.take n) ++ cellsL enc (xs.drop n) := by rw [← cellsL_append, List.take_append_drop]
  have hlen : (cellsL enc (xs.take n)).length = n * k := by rw [cellsL_length hl, List.length_take, Nat.min_eq_left hn]
  rw [e, ← hlen, List.take_left]
theorem cellsL_drop (hl : ∀ x, (enc x).length = k) (xs : List α) (n : Nat) (hn : n ≤ xs.length) : cellsL enc (xs.drop n) = (cellsL enc xs).drop (n * k) := by
  have e : cellsL enc xs = cellsL enc (xs.take n) ++ cellsL enc (xs.drop n) := by rw [← cellsL_append, List.take_append_drop]
  have hlen : (cellsL enc (xs.take n)).length = n * k := by rw [cellsL_length hl, List.length_take, Nat.min_eq_left hn]
  rw [e, ← hlen, List.drop_left]

theorem RSl.nil (w : World) (A : Option Addr) : RSl enc w A [] := fun h => by simp at h
theorem RSl.kept (h : RSl enc w A zs) (hs : w.heap.size ≤ w'.heap.size) (hk : ∀ g o, A = some ⟨g, o, none⟩ → w'.heap[g]? = w.heap[g]?) : RSl enc w' A zs := fun hp => by
  obtain ⟨g, o, e, hg, hc⟩ := h hp
  exact ⟨g, o, e, by omega, fun j z hz => (World.cell?_of_block (w := w) (a := ⟨g, o + j, none⟩) (hk g o e)).trans (hc j z hz)⟩
theorem RSl.up {w0 w : World} (h : RSl enc w0 A ys) (hb : Below w0.heap.size w0 w) : RSl enc w A ys := fun hp => by
  obtain ⟨g, o, e, hg, hc⟩ := h hp
  exact ⟨g, o, e, Nat.lt_of_lt_of_le hg hb.size, fun j z hz => (World.cell?_of_block (w := w0) (a := ⟨g, o + j, none⟩) (hb.block g hg)).trans (hc j z hz)⟩
theorem RSl.take (I : Elt enc T E k by_ z) (h : RSl enc w A zs) (n : Nat) : RSl enc w A (zs.take n) := fun hp => by
  obtain ⟨g, o, e, hg, hc⟩ := h (by rw [List.length_take] at hp; omega)
  refine ⟨g, o, e, hg, fun j u hu => hc j u ?_⟩
  rcases Nat.le_total n zs.length with hn | hn
  · rw [cellsL_take I.len zs n hn, List.getElem?_take] at hu
    split at hu
    · exact hu
    · cases hu
  · rwa [List.take_of_length_le hn] at hu
theorem RSl.drop (I : Elt enc T E k by_ z) (h : RSl enc w A zs) {n cap : Nat} (hn : n ≤ zs.length) (hc : zs.length ≤ cap) : RSl enc w (if cap = n then A else A.map (·.add (n * k))) (zs.drop n) := fun hp => by
  rw [List.length_drop] at hp
  obtain ⟨g, o, rfl, hg, hcell⟩ := h (by omega)
  rw [if_neg (by omega)]
  refine ⟨g, o + n * k, by simp [Addr.add], hg, fun j u hu => ?_⟩
  rw [cellsL_drop I.len zs n hn, List.getElem?_drop] at hu
  rw [Nat.add_assoc]; exact hcell _ _ hu
/-- The cells of element i. -/
theorem RSl.at_ (I : Elt enc T E k by_ z) (h : RSl enc w A zs) {i : Nat} {x : α} (hi : zs[i]? = some x) : ∃ g o, A = some ⟨g, o, none⟩ ∧ g < w.heap.size ∧ ∀ j u, (enc x)[j]? = some u → w.cell? ⟨g, o + (i * k + j), none⟩ = some u := by
  obtain ⟨g, o, e, hg, hc⟩ := h (by have := (List.getElem?_eq_some_iff.1 hi).1; omega)
  refine ⟨g, o, e, hg, fun j u hu => hc _ u ?_⟩
  rw [cellsL_at I.len zs i x j hi (by have := (List.getElem?_eq_some_iff.1 hu).1; rw [I.len] at this; exact this)]
  exact hu
theorem ROwn.shape (I : Elt enc T E k by_ z) (h : ROwn enc E k B w v zs) : ∃ A cap, v = .slice A zs.length cap ∧ zs.length ≤ cap ∧ cap ≤ maxLen ∧ RSl enc w A zs := by
  rcases h.2 with ⟨rfl, h0⟩ | ⟨g, cap, cur, rfl, _, hg, hnc, hcm, hsz, htk⟩
  · have : zs = [] := List.eq_nil_of_length_eq_zero h0
    subst this
    exact ⟨none, 0, rfl, by simp, by simp, RSl.nil _ _⟩
  · refine ⟨_, cap, rfl, hnc, hcm, fun hp => ⟨g, 0, rfl, (Array.getElem?_eq_some_iff.1 hg).1, fun j u hu => ?_⟩⟩
    have hj : j < (cellsL enc zs).length := (List.getElem?_eq_some_iff.1 hu).1
    rw [← htk, List.getElem?_take] at hu
    split at hu
    · simp only [World.cell?, hg, Nat.zero_add]
      simpa using hu
    · cases hu
theorem ROwn.nil (B : Nat) (w : World) : ROwn enc E k B w (.slice none 0 0) [] := ⟨by simp [cellsL], .inl ⟨rfl, rfl⟩⟩
theorem ROwn.kept (h : ROwn enc E k B w v zs) (hk : ∀ g, v.ownBlock = some g → w'.heap[g]? = w.heap[g]?) : ROwn enc E k B w' v zs := by
  refine ⟨h.1, ?_⟩
  rcases h.2 with h0 | ⟨g, cap, cur, rfl, hb, hg, r⟩
  · exact .inl h0
  · exact .inr ⟨g, cap, cur, rfl, hb, (hk g rfl).trans hg, r⟩
theorem ROwn.base (h : ROwn enc E k B w v zs) {g : Nat} (hg : v.ownBlock = some g) : B ≤ g := by
  rcases h.2 with ⟨rfl, _⟩ | ⟨g', cap, cur, rfl, hb, hh, r⟩
  · simp [Value.ownBlock] at hg
  · simp [Value.ownBlock] at hg; subst hg; exact hb
theorem ROwn.empty (B : Nat) (w : World) (h : B ≤ w.heap.size) : ROwn enc E k B (w.alloc (.cells #[] E)) (.slice (some ⟨w.heap.size, 0, none⟩) 0 0) [] :=
  ⟨by simp [cellsL], .inr ⟨w.heap.size, 0, #[], rfl, h, (MapKept.heap_alloc w _).1, by simp, by simp, by simp, by simp [cellsL]⟩⟩
theorem ROwn.lt (h : ROwn enc E k B w v zs) {g : Nat} (hg : v.ownBlock = some g) : g < w.heap.size := by
  rcases h.2 with ⟨rfl, _⟩ | ⟨g', cap, cur, rfl, hb, hh, r⟩
  · simp [Value.ownBlock] at hg
  · simp [Value.ownBlock] at hg; subst hg; exact (Array.getElem?_eq_some_iff.1 hh).1
theorem ROwn.low {B' : Nat} (h : ROwn enc E k B w v zs) (hB : B' ≤ B) : ROwn enc E k B' w v zs := by
  refine ⟨h.1, ?_⟩
  rcases h.2 with h0 | ⟨g, cap, cur, rfl, hb, r⟩
  · exact .inl h0
  · exact .inr ⟨g, cap, cur, rfl, Nat.le_trans hB hb, r⟩
theorem ROwn.up (h : ROwn enc E k B w v zs) (hb : Below w.heap.size w w') : ROwn enc E k B w' v zs := h.kept fun g hg => hb.block g (h.lt hg)

/-- 'append(v, src...)'. -/
theorem append_run (I : Elt enc T E k by_ z) (h : ROwn enc E k B w v xs) (hB : B ≤ w.heap.size) (hs : RSl enc w A ys) (c : Nat) (hlen : xs.length + ys.length ≤ 1000000000) (hby : by_ ≤ 100000) :
    ∃ v' w', (∀ ty, (Builtin.append_ #[T, T] ty #[v, .slice A ys.length c]).run Tryz.prog w = .ok v' w') ∧ ROwn enc E k B w' v' (xs ++ ys) ∧ w.grownBy w' v.ownBlock ∧ (v'.ownBlock = v.ownBlock ∨ v'.ownBlock = some w.heap.size) := by
  obtain ⟨i, hi, hz0, hz1, hz2⟩ := info_parts I.info
  have one : ∀ u ∈ cellsL enc ys, u.oneCell' = true := fun u hu => by obtain ⟨x, _, hx⟩ := List.mem_flatMap.1 hu; exact I.one x u hx
  rcases A with _ | ad
  · have hy : ys = [] := by
      rcases Nat.eq_zero_or_pos ys.length with h0 | h0
      · exact List.eq_nil_of_length_eq_zero h0
      · obtain ⟨g, o, e, _⟩ := hs h0; cases e
    subst hy
    refine ⟨v, w, fun ty => ?_, by simpa using h, World.grownBy.refl w _, .inl rfl⟩
    rcases h.2 with ⟨rfl, h0⟩ | ⟨g, cap, cur, rfl, _, _, hnc, _⟩
    · simp [Builtin.append_, run_underlying I.ht, sizeOf, typeInfo, hi, Builtin.lenOf, Builtin.firstCells]
    · simp [Builtin.append_, run_underlying I.ht, sizeOf, typeInfo, hi, Builtin.lenOf, Builtin.firstCells, hnc, storeCells]
  · have hcells : ∀ j u, (cellsL enc ys)[j]? = some u → w.cell? (ad.add j) = some u := by
      intro j u hu
      have hj := (List.getElem?_eq_some_iff.1 hu).1
      rw [cellsL_length I.len] at hj
      obtain ⟨g, o, e, _, hc⟩ := hs (by rcases Nat.eq_zero_or_pos ys.length with h0 | h0
                                        · rw [h0] at hj; omega
                                        · exact h0)
      simp only [Option.some.injEq] at e
      subst e
      rw [Go.WideShapes.add_plain]; exact hc j u hu
    obtain ⟨v', w', hrun, h2, h3, _, h5⟩ := run_append_own_at (P := Tryz.prog) w B T 0 E i z k by_ I.ht hi hz0 hz1 hz2 I.zs I.k0 v xs.length (cellsL enc xs) h ad ys.length c (cellsL enc ys) (cellsL_length I.len ys) hcells one (by unfold maxLen; omega)
      (Nat.le_trans (Nat.mul_le_mul hlen hby) (by omega)) hB
    refine ⟨v', w', fun ty => hrun, ?_, h3, h5⟩
    unfold ROwn
    rw [List.length_append, cellsL_append]
    exact h2
/-- A block of one element just laid reads as that element. -/
theorem RSl.one (I : Elt enc T E k by_ z) (w : World) (x : α) : RSl enc (w.alloc (.cells (enc x).toArray E)) (some ⟨w.heap.size, 0, none⟩) [x] := by
  intro _
  refine ⟨w.heap.size, 0, rfl, by simp, fun j u hu => ?_⟩
  simp only [cellsL, List.flatMap_cons, List.flatMap_nil, List.append_nil] at hu
  simp only [World.cell?, (MapKept.heap_alloc w _).1, Nat.zero_add]
  simpa using hu
/-- 'append(v, x)': the world is the one behind the block of the one argument. -/
theorem append_elem (I : Elt enc T E k by_ z) (h : ROwn enc E k B w v xs) (hB : B ≤ w.heap.size) (x : α) (hlen : xs.length + 1 ≤ 1000000000) (hby : by_ ≤ 100000) :
    ∃ v' w', (∀ ty, (Builtin.append_ #[T, T] ty #[v, .slice (some ⟨w.heap.size, 0, none⟩) 1 1]).run Tryz.prog (w.alloc (.cells (enc x).toArray E)) = .ok v' w') ∧ ROwn enc E k B w' v' (xs ++ [x]) ∧ Below B w w' ∧ Only (fun g => v.ownBlock = some g) w w' ∧ (v'.ownBlock = v.ownBlock ∨ ∃ g, v'.ownBlock = some g ∧ w.heap.size ≤ g) := by
  have hsz : (w.alloc (.cells (enc x).toArray E)).heap.size = w.heap.size + 1 := by simp
  obtain ⟨v', w', h1, h2, h3, h4⟩ := append_run I (h.kept fun g hg => (MapKept.heap_alloc w (.cells (enc x).toArray E)).2 g (h.lt hg)) (by omega) (RSl.one I w x) 1 (by simpa using hlen) hby
  have hal := (MapKept.heap_alloc w (.cells (enc x).toArray E)).2
  refine ⟨v', w', h1, h2, ((Below.refl B w).alloc hB _).grown h3 (by omega) (fun k hk => h.base hk), ?_, ?_⟩
  · exact ⟨h3.os, h3.tape, h3.output, by have := h3.size; omega, fun i hi hs => (h3.block i (by omega) (fun e => hs e.symm)).trans (hal i hi)⟩
  · rcases h4 with h4 | h4
    · exact .inl h4
    · exact .inr ⟨_, h4, by omega⟩
/-- An append whose run is known. -/
theorem wpList_app_run {P : Program} {w w' : World} {ops : Array Oper} {rest : List Oper} {o : Oper} {a : Act} {Q : Exit → Act → World → Prop} {v u v' : Value} (hgd : o.guard = none) (s x : Operand) (t : TypeId)
    (ho : o.op = .call { callee := .builtin .append, args := #[s, x], argTypes := #[t, t] }) (hs : a.eval s = v) (hx : a.eval x = u)
    (hr : ∀ ty, (Builtin.append_ #[t, t] ty #[v, u]).run P w = .ok v' w') (h : wpList P ops Q rest (a.put o.dst v') w') : wpList P ops Q (o :: rest) a w := by
  refine wpList_plain hgd fun K hK => ?_
  unfold Oper.wp execOp
  simp only [ho, resolve, invoke, builtin, Sem.run_bind, Sem.run_pure, Result.andThen_ok, List.map_toArray, List.map_cons, List.map_nil, hs, hx, hr]
  exact hK _ _ h
/-- At a step of a region that draws: an append onto a slice made since w0 from a slice of w0. -/
theorem step_appG {w0 w : World} {ops : Array Oper} {o : Oper} {a : Act} {K : Act → World → Prop} {Q : Exit → Act → World → Prop} {C : Prop} {n c : Nat} (I : Elt enc T E k by_ z) (hby : by_ ≤ 100000) (hgd : o.guard = none) (s x : Operand)
    (ho : o.op = .call { callee := .builtin .append, args := #[s, x], argTypes := #[T, T] }) (hs : a.eval s = v) (hown : ROwn enc E k w0.heap.size w v xs) (hbel : Below w0.heap.size w0 w)
    (hx : a.eval x = .slice A n c) (hn : n = ys.length) (hsrc : RSl enc w0 A ys) (hlen : xs.length + ys.length ≤ 1000000000)
    (h : ∀ v' w', ROwn enc E k w0.heap.size w' v' (xs ++ ys) → Below w0.heap.size w0 w' → K (a.put o.dst v') w') : if Region.wanted o (yielded ops a.tmps) = true then Oper.wp Tryz.prog o a w K Q else C := by
  have hw : Region.wanted o (yielded ops a.tmps) = true := by simp [Region.wanted, hgd]
  rw [if_pos hw]
  subst hn
  obtain ⟨v', w', hr, h2, h3, h4⟩ := append_run I hown hbel.size (hsrc.up hbel) c hlen hby
  unfold Oper.wp execOp
  simp only [ho, resolve, invoke, builtin, Sem.run_bind, Sem.run_pure, Result.andThen_ok, List.map_toArray, List.map_cons, List.map_nil, hs, hx, hr]
  exact h v' w' h2 (hbel.grown h3 hbel.size (fun k hk => hown.base hk))
end
end Go.Proofs.YtaofcnmajicpcaaGreatDoor
