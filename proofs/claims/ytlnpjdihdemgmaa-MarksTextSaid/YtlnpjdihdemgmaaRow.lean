/- Slices of ints: read as a list (nil let in); owned; append to an owned one from whatever source. -/
import Derived.Test.YtlnpjdihdemgmaaUp
import Derived.Maps.AppendAt
import Derived.Deep.AppendLies
import Derived.Deep.RegionLaw
namespace Go.Proofs.Ytlnpjdihdemgmaa
open Go.RowKit
set_option linter.unusedVariables false

abbrev iv (z : Int) : Value := .int .i64 z
theorem intInfo : (Try.prog.info? 3).map (fun i => (i.zero, i.size, i.bytes)) = some (some (.int .i64 0), 1, 8) := by kernel_rfl
theorem intsT : Try.prog.underlying 30 = some (.slice 3) := Try.underlying30

/-- The slice '.slice A n c' reads as zs. -/
def ISl (w : World) (A : Option Addr) (zs : List Int) : Prop := 0 < zs.length → ∃ g o, A = some ⟨g, o, none⟩ ∧ g < w.heap.size ∧ ∀ j z, zs[j]? = some z → w.cell? ⟨g, o + j, none⟩ = some (iv z)
/-- The slice value v is nil, or lies alone in a block of its own; it holds zs; the block is number B or later. -/
def IOwn (B : Nat) (w : World) (v : Value) (zs : List Int) : Prop := w.ownsRow B 3 1 v zs.length (zs.map iv)

variable {B : Nat} {w w' : World} {A : Option Addr} {zs xs ys : List Int} {v : Value}

theorem ISl.nil (w : World) (A : Option Addr) : ISl w A [] := fun h => by simp at h
theorem ISl.kept (h : ISl w A zs) (hs : w.heap.size ≤ w'.heap.size) (hk : ∀ g o, A = some ⟨g, o, none⟩ → w'.heap[g]? = w.heap[g]?) : ISl w' A zs := fun hp => by
  obtain ⟨g, o, e, hg, hc⟩ := h hp
  exact ⟨g, o, e, by omega, fun j z hz => (World.cell?_of_block (w := w) (a := ⟨g, o + j, none⟩) (hk g o e)).trans (hc j z hz)⟩
theorem ISl.take (h : ISl w A zs) (k : Nat) : ISl w A (zs.take k) := fun hp => by
  obtain ⟨g, o, e, hg, hc⟩ := h (by rw [List.length_take] at hp; omega)
  refine ⟨g, o, e, hg, fun j z hz => hc j z ?_⟩
  rw [List.getElem?_take] at hz
  split at hz
  · exact hz
  · cases hz
theorem ISl.drop (h : ISl w A zs) {k cap : Nat} (hk : k ≤ zs.length) (hc : zs.length ≤ cap) : ISl w (if cap = k then A else A.map (·.add k)) (zs.drop k) := fun hp => by
  rw [List.length_drop] at hp
  obtain ⟨g, o, rfl, hg, hcell⟩ := h (by omega)
  rw [if_neg (by omega)]
  refine ⟨g, o + k, by simp [Addr.add], hg, fun j z hz => ?_⟩
  rw [List.getElem?_drop] at hz
  rw [Nat.add_assoc]; exact hcell _ _ hz
theorem IOwn.shape (h : IOwn B w v zs) : ∃ A cap, v = .slice A zs.length cap ∧ zs.length ≤ cap ∧ cap ≤ maxLen ∧ ISl w A zs := by
  rcases h.2 with ⟨rfl, h0⟩ | ⟨g, cap, cur, rfl, _, hg, hnc, hcm, hsz, htk⟩
  · have : zs = [] := List.eq_nil_of_length_eq_zero h0
    subst this
    exact ⟨none, 0, rfl, by simp, by simp, ISl.nil _ _⟩
  · refine ⟨_, cap, rfl, hnc, hcm, fun hp => ⟨g, 0, rfl, (Array.getElem?_eq_some_iff.1 hg).1, fun j z hz => ?_⟩⟩
    have hj : j < zs.length := (List.getElem?_eq_some_iff.1 hz).1
    have e1 : (zs.map iv)[j]? = some (iv z) := by rw [List.getElem?_map, hz]; rfl
    rw [← htk, List.getElem?_take, if_pos (by omega)] at e1
    simp only [World.cell?, hg, Nat.zero_add]
    simpa using e1
theorem IOwn.nil (B : Nat) (w : World) : IOwn B w (.slice none 0 0) [] := ⟨by simp, .inl ⟨rfl, rfl⟩⟩
theorem IOwn.kept (h : IOwn B w v zs) (hk : ∀ g, v.ownBlock = some g → w'.heap[g]? = w.heap[g]?) : IOwn B w' v zs := by
  refine ⟨h.1, ?_⟩
  rcases h.2 with h0 | ⟨g, cap, cur, rfl, hb, hg, r⟩
  · exact .inl h0
  · exact .inr ⟨g, cap, cur, rfl, hb, (hk g rfl).trans hg, r⟩
theorem IOwn.base (h : IOwn B w v zs) {g : Nat} (hg : v.ownBlock = some g) : B ≤ g := by
  rcases h.2 with ⟨rfl, _⟩ | ⟨g', cap, cur, rfl, hb, hh, r⟩
  · simp [Value.ownBlock] at hg
  · simp [Value.ownBlock] at hg; subst hg; exact hb
theorem IOwn.empty (B : Nat) (w : World) (h : B ≤ w.heap.size) : IOwn B (w.alloc (.cells #[] 3)) (.slice (some ⟨w.heap.size, 0, none⟩) 0 0) [] :=
  ⟨by simp, .inr ⟨w.heap.size, 0, #[], rfl, h, (MapKept.heap_alloc w _).1, by simp, by simp, by simp, by simp⟩⟩
theorem IOwn.lt (h : IOwn B w v zs) {g : Nat} (hg : v.ownBlock = some g) : g < w.heap.size := by
  rcases h.2 with ⟨rfl, _⟩ | ⟨g', cap, cur, rfl, hb, hh, r⟩
  · simp [Value.ownBlock] at hg
  · simp [Value.ownBlock] at hg; subst hg; exact (Array.getElem?_eq_some_iff.1 hh).1

/-- 'append(v, src...)'. -/
theorem append_ints (h : IOwn B w v xs) (hB : B ≤ w.heap.size) (hs : ISl w A ys) (c : Nat) (hlen : xs.length + ys.length ≤ 1000000000) :
    ∃ v' w', (∀ ty, (Builtin.append_ #[30, 30] ty #[v, .slice A ys.length c]).run Try.prog w = .ok v' w') ∧ IOwn B w' v' (xs ++ ys) ∧ w.grownBy w' v.ownBlock ∧ (v'.ownBlock = v.ownBlock ∨ v'.ownBlock = some w.heap.size) := by
  obtain ⟨i, hi, hz0, hz1, hz2⟩ := info_parts intInfo
  have one : ∀ u ∈ ys.map iv, u.oneCell' = true := fun u hu => by obtain ⟨z, _, rfl⟩ := List.mem_map.1 hu; rfl
  rcases A with _ | ad
  · have hy : ys = [] := by
      rcases Nat.eq_zero_or_pos ys.length with h0 | h0
      · exact List.eq_nil_of_length_eq_zero h0
      · obtain ⟨g, o, e, _⟩ := hs h0; cases e
    subst hy
    refine ⟨v, w, fun ty => ?_, by simpa using h, World.grownBy.refl w _, .inl rfl⟩
    rcases h.2 with ⟨rfl, h0⟩ | ⟨g, cap, cur, rfl, _, _, hnc, _⟩
    · simp [Builtin.append_, run_underlying intsT, sizeOf, typeInfo, hi, Builtin.lenOf, Builtin.firstCells]
    · simp [Builtin.append_, run_underlying intsT, sizeOf, typeInfo, hi, Builtin.lenOf, Builtin.firstCells, hnc, storeCells]
  · have hcells : ∀ j u, (ys.map iv)[j]? = some u → w.cell? (ad.add j) = some u := by
      intro j u hu
      rw [List.getElem?_map] at hu
      cases hz : ys[j]? with
      | none => rw [hz] at hu; cases hu
      | some z =>
        rw [hz] at hu
        simp only [Option.map_some, Option.some.injEq] at hu
        subst hu
        obtain ⟨g, o, e, _, hc⟩ := hs (by have := (List.getElem?_eq_some_iff.1 hz).1; omega)
        simp only [Option.some.injEq] at e
        subst e
        rw [Go.WideShapes.add_plain]; exact hc j z hz
    obtain ⟨v', w', hrun, h2, h3, _, h5⟩ := run_append_own_at (P := Try.prog) w B 30 0 3 i (.int .i64 0) 1 8 intsT hi hz0 hz1 hz2 rfl (by decide) v xs.length (xs.map iv) h ad ys.length c (ys.map iv) (by simp) hcells one (by unfold maxLen; omega) (by omega) hB
    refine ⟨v', w', fun ty => hrun, ?_, h3, h5⟩
    unfold IOwn
    rw [List.length_append, List.map_append]
    exact h2
/-- 'append(v, z)': the world is the one behind the block of the one argument. -/
theorem append_one (h : IOwn B w v xs) (hB : B ≤ w.heap.size) (z : Int) (hlen : xs.length + 1 ≤ 1000000000) :
    ∃ v' w', (∀ ty, (Builtin.append_ #[30, 30] ty #[v, .slice (some ⟨w.heap.size, 0, none⟩) 1 1]).run Try.prog (w.alloc (.cells #[iv z] 3)) = .ok v' w') ∧ IOwn B w' v' (xs ++ [z]) ∧ Below B w w' := by
  have hsz : (w.alloc (.cells #[iv z] 3)).heap.size = w.heap.size + 1 := by simp
  have hsrc : ISl (w.alloc (.cells #[iv z] 3)) (some ⟨w.heap.size, 0, none⟩) [z] := by
    intro _
    refine ⟨w.heap.size, 0, rfl, by omega, fun j y hy => ?_⟩
    rcases j with _ | j
    · simp only [List.getElem?_cons_zero, Option.some.injEq] at hy
      subst hy
      simp only [World.cell?, (MapKept.heap_alloc w _).1]
      rfl
    · simp at hy
  obtain ⟨v', w', h1, h2, h3, h4⟩ := append_ints (h.kept fun g hg => (MapKept.heap_alloc w (.cells #[iv z] 3)).2 g (h.lt hg)) (by omega) hsrc 1 (by simpa using hlen)
  refine ⟨v', w', h1, h2, ?_⟩
  exact ((Below.refl B w).alloc hB _).grown h3 (by omega) (fun k hk => h.base hk)
/-- An append whose run is known. -/
theorem wpList_append_run {P : Program} {w w' : World} {ops : Array Oper} {rest : List Oper} {o : Oper} {a : Act} {Q : Exit → Act → World → Prop} {v u v' : Value} (hgd : o.guard = none) (s x : Operand) (t : TypeId)
    (ho : o.op = .call { callee := .builtin .append, args := #[s, x], argTypes := #[t, t] }) (hs : a.eval s = v) (hx : a.eval x = u)
    (hr : ∀ ty, (Builtin.append_ #[t, t] ty #[v, u]).run P w = .ok v' w') (h : wpList P ops Q rest (a.put o.dst v') w') : wpList P ops Q (o :: rest) a w := by
  refine wpList_plain hgd fun K hK => ?_
  unfold Oper.wp execOp
  simp only [ho, resolve, invoke, builtin, Sem.run_bind, Sem.run_pure, Result.andThen_ok, List.map_toArray, List.map_cons, List.map_nil, hs, hx, hr]
  exact hK _ _ h
theorem ISl.up {w0 w : World} (h : ISl w0 A ys) (hb : Below w0.heap.size w0 w) : ISl w A ys := fun hp => by
  obtain ⟨g, o, e, hg, hc⟩ := h hp
  exact ⟨g, o, e, Nat.lt_of_lt_of_le hg hb.size, fun j z hz => (World.cell?_of_block (w := w0) (a := ⟨g, o + j, none⟩) (hb.block g hg)).trans (hc j z hz)⟩
/-- At a step of a region that draws: an append onto a slice made since w0 from a slice of w0. -/
theorem step_app {w0 w : World} {ops : Array Oper} {o : Oper} {a : Act} {K : Act → World → Prop} {Q : Exit → Act → World → Prop} {E : Prop} {n c : Nat} (hgd : o.guard = none) (s x : Operand)
    (ho : o.op = .call { callee := .builtin .append, args := #[s, x], argTypes := #[30, 30] }) (hs : a.eval s = v) (hown : IOwn w0.heap.size w v xs) (hbel : Below w0.heap.size w0 w)
    (hx : a.eval x = .slice A n c) (hn : n = ys.length) (hsrc : ISl w0 A ys) (hlen : xs.length + ys.length ≤ 1000000000)
    (h : ∀ v' w', IOwn w0.heap.size w' v' (xs ++ ys) → Below w0.heap.size w0 w' → K (a.put o.dst v') w') : if Region.wanted o (yielded ops a.tmps) = true then Oper.wp Try.prog o a w K Q else E := by
  have hw : Region.wanted o (yielded ops a.tmps) = true := by simp [Region.wanted, hgd]
  rw [if_pos hw]
  subst hn
  obtain ⟨v', w', hr, h2, h3, h4⟩ := append_ints hown hbel.size (hsrc.up hbel) c hlen
  unfold Oper.wp execOp
  simp only [ho, resolve, invoke, builtin, Sem.run_bind, Sem.run_pure, Result.andThen_ok, List.map_toArray, List.map_cons, List.map_nil, hs, hx, hr]
  exact h v' w' h2 (hbel.grown h3 hbel.size (fun k hk => hown.base hk))
theorem IOwn.low {B' : Nat} (h : IOwn B w v zs) (hB : B' ≤ B) : IOwn B' w v zs := by
  refine ⟨h.1, ?_⟩
  rcases h.2 with h0 | ⟨g, cap, cur, rfl, hb, r⟩
  · exact .inl h0
  · exact .inr ⟨g, cap, cur, rfl, Nat.le_trans hB hb, r⟩
end Go.Proofs.Ytlnpjdihdemgmaa
