import Derived.Test.YtnbccoelbfgmgaaGreatDoorZ00
import Derived.Maps.RangeWalk
import Derived.Maps.OwnSet
import Derived.IntWalk
import Derived.Maps.AppendAt
import Derived.Deep.AppendLies
import Derived.Deep.RegionLaw
import Derived.Laws.OwnMore
import Derived.BigRegion
import Derived.RegionTactic
import Derived.ChangeAlike
/- Maps with keys of type int: a block that holds the entries of an association list without a key twice; look-up, store, delete, len; ranging, with stores at keys that are there. -/
namespace Go.Proofs.YtnbccoelbfgmgaaGreatDoor
open Go.RowKit Go.ChangeMaps Go.WideShapes Go.MapKept
set_option linter.unusedVariables false

section
variable {α : Type}

/-! ### association lists -/
def lookM (m : List (Int × α)) (k : Int) : Option α := (m.find? (fun p => p.1 == k)).map (·.2)
def putM (m : List (Int × α)) (k : Int) (v : α) : List (Int × α) := if (lookM m k).isSome then m.map (fun p => if p.1 == k then (p.1, v) else p) else m ++ [(k, v)]
def delM (m : List (Int × α)) (k : Int) : List (Int × α) := m.filter (fun p => p.1 != k)

theorem lookM_none {m : List (Int × α)} {k : Int} : lookM m k = none ↔ ∀ p ∈ m, p.1 ≠ k := by
  simp [lookM, List.find?_eq_none]
theorem lookM_mem {m : List (Int × α)} {k : Int} {v : α} (h : lookM m k = some v) : (k, v) ∈ m := by
  unfold lookM at h
  cases hf : m.find? (fun p => p.1 == k) with
  | none => rw [hf] at h; cases h
  | some p =>
    rw [hf] at h
    have h1 := List.find?_some hf
    have h2 := List.mem_of_find?_eq_some hf
    simp at h h1
    subst h; subst h1
    exact h2
theorem lookM_of_mem {m : List (Int × α)} (hn : (m.map (·.1)).Nodup) {k : Int} {v : α} (h : (k, v) ∈ m) : lookM m k = some v := by
  induction m with
  | nil => cases h
  | cons p r ih =>
    simp only [List.map_cons, List.nodup_cons] at hn
    rcases List.mem_cons.1 h with rfl | h
    · simp [lookM]
    · have hp : (p.1 == k) = false := by
        rw [beq_eq_false_iff_ne]; intro e; exact hn.1 (e ▸ List.mem_map.2 ⟨_, h, rfl⟩)
      have := ih hn.2 h
      simp only [lookM, List.find?_cons, hp] at this ⊢
      exact this
theorem putM_keys_old {m : List (Int × α)} {k : Int} {v : α} (h : (lookM m k).isSome = true) : (putM m k v).map (·.1) = m.map (·.1) := by
  unfold putM
  rw [if_pos h, List.map_map]
  apply List.map_congr_left
  intro p _
  simp only [Function.comp]
  split <;> rfl
theorem putM_nodup {m : List (Int × α)} (hn : (m.map (·.1)).Nodup) (k : Int) (v : α) : ((putM m k v).map (·.1)).Nodup := by
  by_cases h : (lookM m k).isSome = true
  · rw [putM_keys_old h]; exact hn
  · unfold putM
    rw [if_neg h, List.map_append]
    have h' := lookM_none.1 (by simpa using h)
    refine List.nodup_append.2 ⟨hn, by simp, ?_⟩
    intro a ha b hb e
    simp at hb
    obtain ⟨p, hp, rfl⟩ := List.mem_map.1 ha
    exact h' p hp (e.trans hb)
theorem lookM_put (m : List (Int × α)) (k : Int) (v : α) (j : Int) : lookM (putM m k v) j = if j = k then some v else lookM m j := by
  unfold putM
  by_cases h : (lookM m k).isSome = true
  · rw [if_pos h]
    unfold lookM
    rw [List.find?_map]
    have hc : ((fun p : Int × α => p.1 == j) ∘ fun p : Int × α => if p.1 == k then (p.1, v) else p) = fun p => p.1 == j := by
      funext p; simp only [Function.comp]; split <;> rfl
    rw [hc]
    by_cases e : j = k
    · subst e
      rw [if_pos rfl]
      unfold lookM at h
      cases hf : m.find? (fun p => p.1 == j) with
      | none => rw [hf] at h; simp at h
      | some p => have := List.find?_some hf; simp at this; simp [this]
    · rw [if_neg e]
      cases hf : m.find? (fun p => p.1 == j) with
      | none => rfl
      | some p =>
        have := List.find?_some hf
        simp at this
        have hp : p.1 ≠ k := by rw [this]; exact e
        simp [hp]
  · rw [if_neg h]
    have h' := lookM_none.1 (by simpa using h)
    unfold lookM
    rw [List.find?_append]
    by_cases e : j = k
    · subst e
      rw [if_pos rfl, List.find?_eq_none.2 (fun p hp => by simpa using h' p hp)]
      simp
    · rw [if_neg e]
      have hkj : k ≠ j := fun h => e h.symm
      have : List.find? (fun p : Int × α => p.1 == j) [(k, v)] = none := by simp [hkj]
      rw [this]
      cases m.find? (fun p => p.1 == j) <;> rfl
theorem lookM_del (m : List (Int × α)) (k j : Int) : lookM (delM m k) j = if j = k then none else lookM m j := by
  unfold lookM delM
  rw [List.find?_filter]
  by_cases e : j = k
  · subst e
    rw [if_pos rfl, List.find?_eq_none.2 (fun p hp => by simp)]
    rfl
  · rw [if_neg e]
    congr 2
    funext p
    by_cases h : p.1 = j
    · simp [h, e]
    · simp [h]
theorem delM_nodup {m : List (Int × α)} (hn : (m.map (·.1)).Nodup) (k : Int) : ((delM m k).map (·.1)).Nodup :=
  (List.Sublist.map _ (List.filter_sublist)).nodup hn
theorem length_put (m : List (Int × α)) (k : Int) (v : α) : (putM m k v).length = if (lookM m k).isSome then m.length else m.length + 1 := by
  unfold putM; split <;> simp
theorem length_del_none {m : List (Int × α)} {k : Int} (h : lookM m k = none) : delM m k = m := by
  unfold delM; rw [List.filter_eq_self]; intro p hp; simpa using lookM_none.1 h p hp

theorem inj_of_nodup {β γ : Type} {f : β → γ} : ∀ {l : List β}, (l.map f).Nodup → ∀ {x y : β}, x ∈ l → y ∈ l → f x = f y → x = y
  | [], _, _, _, hx, _, _ => by cases hx
  | a :: r, hn, x, y, hx, hy, h => by
    simp only [List.map_cons, List.nodup_cons] at hn
    rcases List.mem_cons.1 hx with ex | hx'
    · rcases List.mem_cons.1 hy with ey | hy'
      · rw [ex, ey]
      · exact absurd (List.mem_map.2 ⟨y, hy', by rw [← h, ex]⟩) hn.1
    · rcases List.mem_cons.1 hy with ey | hy'
      · exact absurd (List.mem_map.2 ⟨x, hx', by rw [h, ey]⟩) hn.1
      · exact inj_of_nodup hn.2 hx' hy' h

theorem filter_same {β : Type} (p : Nat → Bool) : ∀ {l' l : List ((Int × β) × Nat)}, l'.map (·.1.1) = l.map (·.1.1) → l'.map (·.2) = l.map (·.2) → (l.filter (fun x => p x.2)).map (·.1.1) = (l'.filter (fun x => p x.2)).map (·.1.1)
  | [], [], _, _ => rfl
  | [], _ :: _, h, _ => by simp at h
  | _ :: _, [], h, _ => by simp at h
  | x :: l', y :: l, h, h2 => by
    simp only [List.map_cons, List.cons.injEq] at h h2
    have ih := filter_same p h.2 h2.2
    simp only [List.filter_cons, h2.1]
    split
    · simp only [List.map_cons, h.1, ih]
    · exact ih

/-! ### the block -/
def entOf (enc : α → Value) (x : (Int × α) × Nat) : MapEntry := { key := .int .i64 x.1.1, val := enc x.1.2, born := x.2 }
/-- Block b holds the entries l, each with its stamp. -/
structure IMap (w : World) (b : Nat) (enc : α → Value) (l : List ((Int × α) × Nat)) (clock : Nat) : Prop where
  block : w.heap[b]? = some (.map (l.map (entOf enc)).toArray clock)
  keys : (l.map (·.1.1)).Nodup
  borns : (l.map (·.2)).Nodup
  old : ∀ x ∈ l, x.2 < clock
/-- BLOCK b IS A MAP THAT HOLDS JUST m. -/
def IM (w : World) (b : Nat) (enc : α → Value) (m : List (Int × α)) : Prop := ∃ l clock, IMap w b enc l clock ∧ l.map (·.1) = m

variable {w : World} {b : Nat} {enc : α → Value} {m : List (Int × α)} {l : List ((Int × α) × Nat)} {clock : Nat} {P : Program}

theorem IM.nodup (h : IM w b enc m) : (m.map (·.1)).Nodup := by
  obtain ⟨l, clock, h, rfl⟩ := h
  rw [List.map_map]; exact h.keys
theorem IM.lt (h : IM w b enc m) : b < w.heap.size := by
  obtain ⟨l, clock, h, rfl⟩ := h
  exact (Array.getElem?_eq_some_iff.1 h.block).1
theorem IM.kept {w' : World} (h : IM w b enc m) (hb : w'.heap[b]? = w.heap[b]?) : IM w' b enc m := by
  obtain ⟨l, clock, h, rfl⟩ := h
  exact ⟨l, clock, ⟨hb.trans h.block, h.keys, h.borns, h.old⟩, rfl⟩
theorem IM.below {w' : World} {B : Nat} (h : IM w b enc m) (hb : Below B w w') (hB : b < B) : IM w' b enc m := h.kept (hb.block b hB)
theorem IM.made (w : World) (enc : α → Value) : IM (w.alloc (.map #[] 0)) w.heap.size enc [] :=
  ⟨[], 0, ⟨(MapKept.heap_alloc w _).1, by simp, by simp, by simp⟩, rfl⟩

theorem keysInt (enc : α → Value) (l : List ((Int × α) × Nat)) : ∀ x ∈ l.map (entOf enc), MapKept.IsKey (.int .i64) x.key := by
  intro x hx
  obtain ⟨y, _, rfl⟩ := List.mem_map.1 hx
  rfl
/-- The search for a key. -/
theorem find_spec (enc : α → Value) (l : List ((Int × α) × Nat)) (k : Int) :
    (Instr.findNow (.int .i64) (.int .i64 k) (l.map (entOf enc)) 0 = some none ∧ ∀ x ∈ l, x.1.1 ≠ k) ∨
    ∃ j x, Instr.findNow (.int .i64) (.int .i64 k) (l.map (entOf enc)) 0 = some (some (j, enc x.1.2)) ∧ l[j]? = some x ∧ x.1.1 = k := by
  rcases MapKept.findNow_spec (d := .int .i64) (k := .int .i64 k) rfl (l.map (entOf enc)) 0 (keysInt enc l) with ⟨h1, h2⟩ | ⟨j, e, h1, h2, h3⟩
  · exact .inl ⟨h1, fun x hx e => h2 _ (List.mem_map.2 ⟨x, hx, rfl⟩) (by simp [entOf, e])⟩
  · rw [List.getElem?_map] at h2
    cases hj : l[j]? with
    | none => rw [hj] at h2; cases h2
    | some x =>
      rw [hj] at h2
      simp only [Option.map_some, Option.some.injEq] at h2
      subst h2
      exact .inr ⟨j, x, by simpa [entOf] using h1, hj, by simpa [entOf] using h3⟩
theorem look_of_none {k : Int} (h : ∀ x ∈ l, x.1.1 ≠ k) : lookM (l.map (·.1)) k = none := lookM_none.2 (fun p hp => by obtain ⟨x, hx, rfl⟩ := List.mem_map.1 hp; exact h x hx)
theorem look_of_some (hn : (l.map (·.1.1)).Nodup) {k : Int} {j : Nat} {x : (Int × α) × Nat} (hj : l[j]? = some x) (hx : x.1.1 = k) : lookM (l.map (·.1)) k = some x.1.2 :=
  lookM_of_mem (by rw [List.map_map]; exact hn) (List.mem_map.2 ⟨x, List.mem_of_getElem? hj, by rw [← hx]⟩)

variable {t kt e : TypeId} (ht : P.underlying t = some (.map kt e)) (hk : P.underlying kt = some (.int .i64))
include ht hk

/-- 'v, ok := m[k]' and 'm[k]', at a key that is there. -/
theorem IM.look_some (h : IM w b enc m) {k : Int} {v : α} (hv : lookM m k = some v) (c : Bool) :
    (Instr.lookup t (.map (some b)) (.int .i64 k) c).run P w = .ok (if c then .tuple #[enc v, .bool true] else enc v) w := by
  obtain ⟨l, clock, h, rfl⟩ := h
  rcases find_spec enc l k with ⟨h1, h2⟩ | ⟨j, x, h1, h2, h3⟩
  · rw [look_of_none h2] at hv; cases hv
  · rw [look_of_some h.keys h2 h3] at hv
    simp only [Option.some.injEq] at hv
    subst hv
    have hf := MapKept.run_findKey (P := P) (w := w) hk h1
    have hc := MapKept.run_checkKey (P := P) (w := w) (k := .int .i64 k) hk rfl ((l.map (entOf enc)).toArray.isEmpty) 9999
    simp only [Instr.lookup, Sem.run_bind, run_underlying ht, MapKept.run_getObj_map h.block, Result.andThen, Sem.run_pure, hc, hf]
theorem IM.look_none (h : IM w b enc m) {k : Int} (hv : lookM m k = none) (c : Bool) {z : Value} (hz : (zeroValue e).run P w = .ok z w) :
    (Instr.lookup t (.map (some b)) (.int .i64 k) c).run P w = .ok (if c then .tuple #[z, .bool false] else z) w := by
  obtain ⟨l, clock, h, rfl⟩ := h
  rcases find_spec enc l k with ⟨h1, h2⟩ | ⟨j, x, h1, h2, h3⟩
  · have hf := MapKept.run_findKey (P := P) (w := w) hk h1
    have hc := MapKept.run_checkKey (P := P) (w := w) (k := .int .i64 k) hk rfl ((l.map (entOf enc)).toArray.isEmpty) 9999
    simp only [Instr.lookup, Sem.run_bind, run_underlying ht, MapKept.run_getObj_map h.block, Result.andThen, Sem.run_pure, hc, hf, hz]
  · rw [look_of_some h.keys h2 h3] at hv; cases hv
/-- 'm[k] = v'. -/
theorem IM.store (h : IM w b enc m) (k : Int) (v : α) :
    ∃ w', (Instr.mapUpdate t (.map (some b)) (.int .i64 k) (enc v)).run P w = .ok () w' ∧ IM w' b enc (putM m k v) ∧ w.grownBy w' (some b) ∧ w'.heap.size = w.heap.size := by
  obtain ⟨l, clock, h, rfl⟩ := h
  have hc := MapKept.run_checkKey (P := P) (w := w) (k := .int .i64 k) hk rfl false 9999
  have hgr : ∀ o, w.grownBy (setBlock w b o) (some b) ∧ (setBlock w b o).heap.size = w.heap.size := fun o =>
    ⟨⟨rfl, rfl, rfl, by simp [setBlock], fun i _ hi => heap_setBlock_other h.block _ (fun e => hi (by rw [e]))⟩, by simp [setBlock]⟩
  rcases find_spec enc l k with ⟨h1, h2⟩ | ⟨j, x, h1, h2, h3⟩
  · have hf := MapKept.run_findKey (P := P) (w := w) hk h1
    refine ⟨setBlock w b (.map ((l ++ [((k, v), clock)]).map (entOf enc)).toArray (clock + 1)), ?_, ⟨l ++ [((k, v), clock)], clock + 1, ⟨heap_setBlock_same h.block _, ?_, ?_, ?_⟩, ?_⟩, (hgr _).1, (hgr _).2⟩
    · simp only [Instr.mapUpdate, Sem.run_bind, run_underlying ht, MapKept.run_getObj_map h.block, Result.andThen, hc, hf, MapKept.run_setObj_map _ h.block, setBlock]
      simp [entOf]
    · rw [List.map_append]
      refine List.nodup_append.2 ⟨h.keys, by simp, ?_⟩
      intro a ha c hc e
      simp at hc
      obtain ⟨y, hy, rfl⟩ := List.mem_map.1 ha
      exact h2 y hy (e.trans hc)
    · rw [List.map_append]
      refine List.nodup_append.2 ⟨h.borns, by simp, ?_⟩
      intro a ha c hc e
      simp at hc
      obtain ⟨y, hy, rfl⟩ := List.mem_map.1 ha
      have := h.old y hy
      omega
    · intro y hy
      rcases List.mem_append.1 hy with hy | hy
      · exact Nat.lt_succ_of_lt (h.old y hy)
      · simp at hy; subst hy; exact Nat.lt_succ_self _
    · unfold putM
      rw [if_neg (by rw [look_of_none h2]; simp)]
      simp
  · have hf := MapKept.run_findKey (P := P) (w := w) hk h1
    have hjl : j < l.length := (List.getElem?_eq_some_iff.1 h2).1
    have hkey : (((l.map (entOf enc)).toArray[j]?).map (·.key)).getD (.int .i64 k) = .int .i64 k := by
      simp [List.getElem?_map, h2, entOf, h3]
    have hst := MapKept.run_keyThatStays (P := P) (w := w) (d := .int .i64) (k := .int .i64 k) rfl
    have hmod : (l.map (entOf enc)).toArray.modify j (fun e => { e with key := .int .i64 k, val := enc v }) = ((l.map (fun x => if x.1.1 == k then ((x.1.1, v), x.2) else x)).map (entOf enc)).toArray := by
      apply Array.ext_getElem?
      intro i
      rw [Array.getElem?_modify]
      simp only [List.getElem?_toArray, List.getElem?_map]
      by_cases hij : j = i
      · subst hij
        rw [if_pos rfl, h2]
        simp [entOf, h3]
      · rw [if_neg hij]
        cases hi : l[i]? with
        | none => rfl
        | some y =>
          have hy : y.1.1 ≠ k := by
            intro e
            have hil : i < l.length := (List.getElem?_eq_some_iff.1 hi).1
            have e1 : (l.map (·.1.1))[i]'(by simpa using hil) = y.1.1 := by rw [List.getElem_map]; rw [(List.getElem?_eq_some_iff.1 hi).2]
            have e2 : (l.map (·.1.1))[j]'(by simpa using hjl) = x.1.1 := by rw [List.getElem_map]; rw [(List.getElem?_eq_some_iff.1 h2).2]
            have hp := List.pairwise_iff_getElem.1 h.keys
            rcases Nat.lt_or_ge i j with hlt | hge
            · exact hp i j (by simpa using hil) (by simpa using hjl) hlt (e1.trans (e.trans (h3.symm.trans e2.symm)))
            · exact hp j i (by simpa using hjl) (by simpa using hil) (by omega) (e2.trans (h3.trans (e.symm.trans e1.symm)))
          simp [hy]
    refine ⟨setBlock w b (.map ((l.map (fun x => if x.1.1 == k then ((x.1.1, v), x.2) else x)).map (entOf enc)).toArray clock), ?_, ⟨_, clock, ⟨heap_setBlock_same h.block _, ?_, ?_, ?_⟩, ?_⟩, (hgr _).1, (hgr _).2⟩
    · simp only [Instr.mapUpdate, Sem.run_bind, run_underlying ht, MapKept.run_getObj_map h.block, Result.andThen, hc, hf, hkey, hst, MapKept.run_setObj_map _ h.block, setBlock, hmod]
    · have : (l.map (fun x => if x.1.1 == k then ((x.1.1, v), x.2) else x)).map (·.1.1) = l.map (·.1.1) := by
        rw [List.map_map]; apply List.map_congr_left; intro y _; simp only [Function.comp]; split <;> rfl
      rw [this]; exact h.keys
    · have : (l.map (fun x => if x.1.1 == k then ((x.1.1, v), x.2) else x)).map (·.2) = l.map (·.2) := by
        rw [List.map_map]; apply List.map_congr_left; intro y _; simp only [Function.comp]; split <;> rfl
      rw [this]; exact h.borns
    · intro y hy
      obtain ⟨z, hz, rfl⟩ := List.mem_map.1 hy
      have := h.old z hz
      split <;> exact this
    · unfold putM
      rw [if_pos (by rw [look_of_some h.keys h2 h3]; rfl), List.map_map, List.map_map]
      apply List.map_congr_left
      intro y _
      simp only [Function.comp]
      split <;> rfl
omit hk in
theorem run_delete_none {A : Array MapEntry} (hb : w.heap[b]? = some (.map A clock)) {key : Value} (hc : (Instr.checkKey A.isEmpty 10000 kt key).run P w = .ok () w) (hf : (Instr.findKey kt key A.toList).run P w = .ok none w) (ty : TypeId) :
    (Builtin.delete_ #[t, kt] ty #[.map (some b), key]).run P w = .ok (.tuple #[]) (setBlock w b (.map A clock)) := by
  simp [Builtin.delete_, run_underlying ht, MapKept.run_getObj_map hb, Result.andThen, hc, hf, MapKept.run_setObj_map _ hb, setBlock]
omit hk in
theorem run_delete_some {A : Array MapEntry} (hb : w.heap[b]? = some (.map A clock)) {key v : Value} {j : Nat} (hc : (Instr.checkKey A.isEmpty 10000 kt key).run P w = .ok () w) (hf : (Instr.findKey kt key A.toList).run P w = .ok (some (j, v)) w) (ty : TypeId) :
    (Builtin.delete_ #[t, kt] ty #[.map (some b), key]).run P w = .ok (.tuple #[]) (setBlock w b (.map (A.eraseIdxIfInBounds j) clock)) := by
  simp [Builtin.delete_, run_underlying ht, MapKept.run_getObj_map hb, Result.andThen, hc, hf, MapKept.run_setObj_map _ hb, setBlock]
/-- 'delete(m, k)'. -/
theorem IM.drop (h : IM w b enc m) (k : Int) (ty : TypeId) :
    ∃ w', (Builtin.delete_ #[t, kt] ty #[.map (some b), .int .i64 k]).run P w = .ok (.tuple #[]) w' ∧ IM w' b enc (delM m k) ∧ w.grownBy w' (some b) ∧ w'.heap.size = w.heap.size := by
  obtain ⟨l, clock, h, rfl⟩ := h
  have hc := MapKept.run_checkKey (P := P) (w := w) (k := .int .i64 k) hk rfl ((l.map (entOf enc)).toArray.isEmpty) 9999
  have hgr : ∀ o, w.grownBy (setBlock w b o) (some b) ∧ (setBlock w b o).heap.size = w.heap.size := fun o =>
    ⟨⟨rfl, rfl, rfl, by simp [setBlock], fun i _ hi => heap_setBlock_other h.block _ (fun e => hi (by rw [e]))⟩, by simp [setBlock]⟩
  have hfl : ∀ {l' : List ((Int × α) × Nat)}, l'.Sublist l → (l'.map (·.1.1)).Nodup ∧ (l'.map (·.2)).Nodup ∧ ∀ x ∈ l', x.2 < clock := fun hs =>
    ⟨(hs.map _).nodup h.keys, (hs.map _).nodup h.borns, fun x hx => h.old x (hs.subset hx)⟩
  rcases find_spec enc l k with ⟨h1, h2⟩ | ⟨j, x, h1, h2, h3⟩
  · have hf := MapKept.run_findKey (P := P) (w := w) hk h1
    refine ⟨setBlock w b (.map (l.map (entOf enc)).toArray clock), ?_, ⟨l, clock, ⟨heap_setBlock_same h.block _, h.keys, h.borns, h.old⟩, ?_⟩, (hgr _).1, (hgr _).2⟩
    · exact run_delete_none ht h.block hc hf ty
    · exact (length_del_none (look_of_none h2)).symm
  · have hf := MapKept.run_findKey (P := P) (w := w) hk h1
    have hjl : j < l.length := (List.getElem?_eq_some_iff.1 h2).1
    obtain ⟨q1, q2, q3⟩ := hfl (List.eraseIdx_sublist l j)
    have he : ((l.map (entOf enc)).toArray).eraseIdxIfInBounds j = ((l.eraseIdx j).map (entOf enc)).toArray := by
      have hjs : j < (l.map (entOf enc)).toArray.size := by simpa using hjl
      unfold Array.eraseIdxIfInBounds
      rw [dif_pos hjs]
      apply Array.ext'
      simp [map_eraseIdx]
    refine ⟨setBlock w b (.map ((l.eraseIdx j).map (entOf enc)).toArray clock), ?_, ⟨l.eraseIdx j, clock, ⟨heap_setBlock_same h.block _, q1, q2, q3⟩, ?_⟩, (hgr _).1, (hgr _).2⟩
    · rw [← he]; exact run_delete_some ht h.block hc hf ty
    · unfold delM
      rw [map_eraseIdx]
      have hx : (l.map (·.1))[j]? = some x.1 := by rw [List.getElem?_map, h2]; rfl
      have hkeys : (l.map (·.1)).Pairwise (fun p q => p.1 ≠ q.1) := by
        have := h.keys
        rw [List.Nodup, List.pairwise_map] at this
        rw [List.pairwise_map]; exact this
      generalize l.map (·.1) = mm at hx hkeys
      clear h1 h2 hf he q1 q2 q3 hjl hfl hgr hc h
      induction mm generalizing j with
      | nil => simp at hx
      | cons p r ih =>
        obtain ⟨hp1, hp2⟩ := List.pairwise_cons.1 hkeys
        cases j with
        | zero =>
          simp at hx
          subst hx
          simp only [List.eraseIdx_cons_zero, List.filter_cons, h3]
          simp only [bne_self_eq_false, Bool.false_eq_true, if_false]
          rw [List.filter_eq_self.2]
          intro q hq
          have := hp1 q hq
          rw [h3] at this
          simpa using fun e : q.1 = k => this e.symm
        | succ j =>
          simp at hx
          have hpk : p.1 ≠ k := by
            have := hp1 x.1 (List.mem_of_getElem? hx)
            rw [h3] at this; exact this
          simp only [List.eraseIdx_cons_succ, List.filter_cons]
          rw [if_pos (by simpa using hpk)]
          congr 1
          exact ih j hx hp2
omit hk in
theorem IM.size (h : IM w b enc m) (ty : TypeId) : (Builtin.len_ #[t] ty #[.map (some b)]).run P w = .ok (.int .i64 m.length) w := by
  obtain ⟨l, clock, h, rfl⟩ := h
  simp [Builtin.len_, run_underlying ht, MapKept.run_getObj_map h.block, goInt]

/-! ### ranging -/
omit ht hk
/-- Block r is an iterator over the map in block b, which holds m; the keys that are still to come are todo. -/
def IRange (w : World) (b r : Nat) (enc : α → Value) (m : List (Int × α)) (todo : List Int) : Prop :=
  ∃ l clock since seen c0, IMap w b enc l clock ∧ l.map (·.1) = m ∧ w.heap[r]? = some (.mapIter (some b) since seen c0) ∧ (∀ x ∈ l, x.2 < since) ∧ since ≤ c0 ∧ since ≤ clock ∧
    todo = (l.filter (fun x => !seen.contains x.2)).map (·.1.1)
theorem IRange.im {r : Nat} {todo : List Int} (h : IRange w b r enc m todo) : IM w b enc m := by
  obtain ⟨l, clock, since, seen, c0, h, hm, _⟩ := h
  exact ⟨l, clock, h, hm⟩
theorem IRange.kept {w' : World} {r : Nat} {todo : List Int} (h : IRange w b r enc m todo) (hb : w'.heap[b]? = w.heap[b]?) (hr : w'.heap[r]? = w.heap[r]?) : IRange w' b r enc m todo := by
  obtain ⟨l, clock, since, seen, c0, h, hm, h1, h2, h3, h4, h5⟩ := h
  exact ⟨l, clock, since, seen, c0, ⟨hb.trans h.block, h.keys, h.borns, h.old⟩, hm, hr.trans h1, h2, h3, h4, h5⟩
theorem IRange.ne {r : Nat} {todo : List Int} (h : IRange w b r enc m todo) : r ≠ b := by
  obtain ⟨l, clock, since, seen, c0, h, hm, h1, _⟩ := h
  intro e
  rw [e, h.block] at h1
  cases h1
theorem IRange.lt {r : Nat} {todo : List Int} (h : IRange w b r enc m todo) : r < w.heap.size := by
  obtain ⟨l, clock, since, seen, c0, h, hm, h1, _⟩ := h
  exact (Array.getElem?_eq_some_iff.1 h1).1
theorem IRange.todo_mem {r : Nat} {todo : List Int} (h : IRange w b r enc m todo) : ∀ k ∈ todo, k ∈ m.map (·.1) := by
  obtain ⟨l, clock, since, seen, c0, h, rfl, h1, h2, h3, h4, rfl⟩ := h
  intro k hk
  obtain ⟨x, hx, rfl⟩ := List.mem_map.1 hk
  rw [List.map_map]
  exact List.mem_map.2 ⟨x, (List.mem_filter.1 hx).1, rfl⟩
theorem IRange.todo_nodup {r : Nat} {todo : List Int} (h : IRange w b r enc m todo) : todo.Nodup := by
  obtain ⟨l, clock, since, seen, c0, h, rfl, h1, h2, h3, h4, rfl⟩ := h
  exact (List.filter_sublist.map _).nodup h.keys
include ht in
theorem IM.range (h : IM w b enc m) :
    ∃ w', (Instr.range t (.map (some b))).run P w = .ok (.pointer (some ⟨w.heap.size, 0, none⟩)) w' ∧ IRange w' b w.heap.size enc m (m.map (·.1)) ∧ Below w.heap.size w w' ∧ w'.heap.size = w.heap.size + 1 := by
  have hlt := h.lt
  obtain ⟨l, clock, h, rfl⟩ := h
  refine ⟨_, run_range_map w t kt e b _ clock ht h.block, ⟨l, clock, clock, #[], clock, ⟨((MapKept.heap_alloc w _).2 b hlt).trans h.block, h.keys, h.borns, h.old⟩, rfl, (MapKept.heap_alloc w _).1, h.old, Nat.le_refl _, Nat.le_refl _, ?_⟩, below1 w _, by simp⟩
  rw [List.filter_eq_self.2 (by simp), List.map_map]
  rfl

theorem IRange.left {r : Nat} {todo : List Int} (h : IRange w b r enc m todo) : w.rangeLeft b r = todo.length := by
  obtain ⟨l, clock, since, seen, c0, h, rfl, h1, h2, h3, h4, rfl⟩ := h
  simp only [World.rangeLeft, h.block, h1]
  have : (leftOf (l.map (entOf enc)).toArray seen).toList = (l.filter (fun x => !seen.contains x.2)).map (entOf enc) := by
    simp only [leftOf, List.filter_toArray, List.filter_map]
    rfl
  rw [← Array.length_toList, this]
  simp

/-- The step: nothing is left; or some key that is left comes, with its element. -/
theorem IRange.next {r : Nat} {todo : List Int} (h : IRange w b r enc m todo) :
    (todo = [] ∧ ∀ ty, (Instr.next (.pointer (some ⟨r, 0, none⟩)) false ty).run P w = .ok (.tuple #[.bool false]) w) ∨
    ∃ k v w', k ∈ todo ∧ lookM m k = some v ∧ (∀ ty, (Instr.next (.pointer (some ⟨r, 0, none⟩)) false ty).run P w = .ok (.tuple #[.bool true, .int .i64 k, enc v]) w') ∧
      IRange w' b r enc m (todo.filter (· != k)) ∧ w.grownBy w' (some r) ∧ w'.heap.size = w.heap.size ∧ (Instr.entry (.pointer (some ⟨r, 0, none⟩))).run P w' = .ok (.tuple #[.int .i64 k, enc v]) w' := by
  have hne := h.ne
  obtain ⟨l, clock, since, seen, c0, h, rfl, h1, h2, h3, h4, rfl⟩ := h
  have hold : ∀ x ∈ ((l.map (entOf enc)).toArray).toList, x.born < since := by
    intro x hx
    obtain ⟨y, hy, rfl⟩ := List.mem_map.1 (show x ∈ l.map (entOf enc) from hx)
    exact h2 y hy
  rcases run_next_at (P := P) w 0 r b since c0 seen _ clock h1 h.block hold h3 with ⟨h0, hrun⟩ | ⟨x, hx, w1, hal, hrun⟩
  · refine .inl ⟨?_, fun _ => hrun⟩
    have : (leftOf (l.map (entOf enc)).toArray seen).toList = (l.filter (fun x => !seen.contains x.2)).map (entOf enc) := by
      simp only [leftOf, List.filter_toArray, List.filter_map]
      rfl
    have hz : (l.filter (fun x => !seen.contains x.2)).length = 0 := by
      have h5 := congrArg List.length this
      simp only [List.length_map, Array.length_toList, h0] at h5
      exact h5.symm
    rw [List.length_eq_zero_iff.1 hz]; rfl
  · obtain ⟨hem, hes⟩ := mem_left hx
    obtain ⟨y, hy, rfl⟩ := List.mem_map.1 (show x ∈ l.map (entOf enc) from hem)
    have hb1 : w1.heap[b]? = some (.map (l.map (entOf enc)).toArray clock) := by rcases hal with rfl | rfl <;> exact h.block
    have hr1 : w1.heap[r]? = some (.mapIter (some b) since seen c0) := by rcases hal with rfl | rfl <;> exact h1
    have hset := heap_set (o' := .mapIter (some b) since (seen.push y.2) clock) hr1
    have hb' : (setBlock w1 r (.mapIter (some b) since (seen.push y.2) clock)).heap[b]? = some (.map (l.map (entOf enc)).toArray clock) := (hset.2 b (fun e1 => hne e1.symm)).trans hb1
    have hnb : (((l.map (entOf enc)).toArray).toList.map (·.born)).Nodup := by
      have e1 : ((l.map (entOf enc)).toArray).toList.map (·.born) = l.map (·.2) := by rw [List.map_map]; rfl
      rw [e1]
      exact h.borns
    refine .inr ⟨y.1.1, y.1.2, _, ?_, ?_, fun _ => hrun, ⟨l, clock, since, seen.push y.2, clock, ⟨hb', h.keys, h.borns, h.old⟩, rfl, hset.1, h2, h4, h4, ?_⟩, ?_, ?_, run_entry_at _ r b since seen _ clock (entOf enc y) hset.1 hb' hem hnb⟩
    · exact List.mem_map.2 ⟨y, List.mem_filter.2 ⟨hy, by simpa [entOf] using hes⟩, rfl⟩
    · exact lookM_of_mem (by rw [List.map_map]; exact h.keys) (List.mem_map.2 ⟨y, hy, rfl⟩)
    · rw [List.filter_map, List.filter_filter]
      congr 1
      apply List.filter_congr
      intro z hz
      have hzy : (z.1.1 != y.1.1) = !(z.2 == y.2) := by
        by_cases e1 : z = y
        · subst e1; simp
        · have n1 : z.1.1 ≠ y.1.1 := fun e2 => e1 (inj_of_nodup h.keys hz hy e2)
          have n2 : z.2 ≠ y.2 := fun e2 => e1 (inj_of_nodup h.borns hz hy e2)
          rw [show (z.1.1 != y.1.1) = true by simpa using n1, show (z.2 == y.2) = false by simpa using n2]; rfl
      show ((z.1.1 != y.1.1) && !seen.contains z.2) = !(seen.push y.2).contains z.2
      rw [hzy, contains_push]
      cases seen.contains z.2 <;> cases (z.2 == y.2) <;> rfl
    · rcases hal with rfl | rfl <;> exact ⟨rfl, rfl, rfl, by simp [setBlock], fun i _ hi => hset.2 i (fun e1 => hi (by rw [e1]))⟩
    · rcases hal with rfl | rfl <;> simp [setBlock]
/-- 'm[k] = v' in the round, at a key that is there. -/
theorem IRange.store {t kt e : TypeId} (ht : P.underlying t = some (.map kt e)) (hk : P.underlying kt = some (.int .i64)) {r : Nat} {todo : List Int} (h : IRange w b r enc m todo) {k : Int} (v : α) (hin : (lookM m k).isSome = true) :
    ∃ w', (Instr.mapUpdate t (.map (some b)) (.int .i64 k) (enc v)).run P w = .ok () w' ∧ IRange w' b r enc (putM m k v) todo ∧ w.grownBy w' (some b) ∧ w'.heap.size = w.heap.size := by
  have hne := h.ne
  obtain ⟨l, clock, since, seen, c0, h, rfl, h1, h2, h3, h4, rfl⟩ := h
  obtain ⟨w', hrun, ⟨l', clock', h', hm'⟩, hg, hsz⟩ := IM.store ht hk ⟨l, clock, h, rfl⟩ k v
  -- the stamps are as they were
  have hc := MapKept.run_checkKey (P := P) (w := w) (k := .int .i64 k) hk rfl false 9999
  rcases find_spec enc l k with ⟨f1, f2⟩ | ⟨j, x, f1, f2, f3⟩
  · rw [look_of_none f2] at hin; cases hin
  · have hf := MapKept.run_findKey (P := P) (w := w) hk f1
    have hkey : (((l.map (entOf enc)).toArray[j]?).map (·.key)).getD (.int .i64 k) = .int .i64 k := by
      simp [List.getElem?_map, f2, entOf, f3]
    have hst := MapKept.run_keyThatStays (P := P) (w := w) (d := .int .i64) (k := .int .i64 k) rfl
    have hrun2 : (Instr.mapUpdate t (.map (some b)) (.int .i64 k) (enc v)).run P w = .ok () (setBlock w b (.map ((l.map (entOf enc)).toArray.modify j (fun e => { e with key := .int .i64 k, val := enc v })) clock)) := by
      simp only [Instr.mapUpdate, Sem.run_bind, run_underlying ht, MapKept.run_getObj_map h.block, Result.andThen, hc, hf, hkey, hst, MapKept.run_setObj_map _ h.block, setBlock]
    rw [hrun] at hrun2
    have hw' : w' = setBlock w b (.map ((l.map (entOf enc)).toArray.modify j (fun e => { e with key := .int .i64 k, val := enc v })) clock) := by injection hrun2
    have hbl := h'.block
    have hbl2 : w'.heap[b]? = some (.map ((l.map (entOf enc)).toArray.modify j (fun e => { e with key := .int .i64 k, val := enc v })) clock) := by rw [hw']; exact heap_setBlock_same h.block _
    rw [hbl] at hbl2
    have hpair : ((l'.map (entOf enc)).toArray = (l.map (entOf enc)).toArray.modify j (fun e => { e with key := .int .i64 k, val := enc v })) ∧ clock' = clock := by simpa using hbl2
    obtain ⟨ha, rfl⟩ := hpair
    have hb' : l'.map (·.2) = l.map (·.2) := by
      have e1 : (l'.map (entOf enc)).toArray.toList.map (·.born) = l'.map (·.2) := by rw [List.map_map]; rfl
      have e2 : (l.map (entOf enc)).toArray.toList.map (·.born) = l.map (·.2) := by rw [List.map_map]; rfl
      rw [← e1, ← e2, ha]
      generalize (l.map (entOf enc)).toArray = A
      apply List.ext_getElem?
      intro i
      simp only [List.getElem?_map, Array.getElem?_toList, Array.getElem?_modify]
      split
      · cases A[i]? <;> rfl
      · rfl
    have hkk : l'.map (·.1.1) = l.map (·.1.1) := by
      have e1 : l'.map (·.1.1) = (l'.map (·.1)).map (·.1) := by rw [List.map_map]; rfl
      have e2 : l.map (·.1.1) = (l.map (·.1)).map (·.1) := by rw [List.map_map]; rfl
      rw [e1, e2, hm', putM_keys_old hin]
    refine ⟨w', hrun, ⟨l', clock', since, seen, c0, h', hm', (hg.block r (Array.getElem?_eq_some_iff.1 h1).1 (fun e => hne (by cases e; rfl))).trans h1, ?_, h3, h4, ?_⟩, hg, hsz⟩
    · intro y hy
      have hyb : y.2 ∈ l.map (·.2) := hb' ▸ List.mem_map.2 ⟨y, hy, rfl⟩
      obtain ⟨z, hz, hzy⟩ := List.mem_map.1 hyb
      rw [← hzy]; exact h2 z hz
    · exact filter_same (fun n => !seen.contains n) hkk hb'
end
end Go.Proofs.YtnbccoelbfgmgaaGreatDoor
/- What New makes: the empty log, marks, properties, overlays. -/
namespace Go.Proofs.YtnbccoelbfgmgaaGreatDoor
open Go.RowKit
set_option linter.unusedVariables false
set_option linter.unusedSimpArgs false
/-- A block that holds these cells. -/
def Blk (w : World) (b : Nat) (T : TypeId) (cs : Array Value) : Prop := w.heap[b]? = some (.cells cs T)
theorem Blk.cell {w : World} {b : Nat} {T : TypeId} {cs : Array Value} (h : Blk w b T cs) {j : Nat} {v : Value} (hj : cs[j]? = some v) : w.cell? ⟨b, j, none⟩ = some v := by
  unfold Blk at h
  simp [World.cell?, h, hj]
theorem Blk.fz {w : World} {b : Nat} {T : TypeId} {cs : Array Value} (h : Blk w b T cs) (j : Nat) : w.frozen? ⟨b, j, none⟩ = false := by
  unfold Blk at h
  simp [World.frozen?, h]
theorem Blk.lt {w : World} {b : Nat} {T : TypeId} {cs : Array Value} (h : Blk w b T cs) : b < w.heap.size := (Array.getElem?_eq_some_iff.1 h).1
theorem Blk.kept {w w' : World} {b : Nat} {T : TypeId} {cs : Array Value} (h : Blk w b T cs) (hb : w'.heap[b]? = w.heap[b]?) : Blk w' b T cs := hb.trans h
theorem Blk.up {w w' : World} {b : Nat} {T : TypeId} {cs : Array Value} (h : Blk w b T cs) (hb : Below w.heap.size w w') : Blk w' b T cs := h.kept (hb.block b h.lt)
theorem Blk.only {w w' : World} {b : Nat} {T : TypeId} {cs : Array Value} {Z : Nat → Prop} (h : Blk w b T cs) (ho : Only Z w w') (hz : ¬ Z b) : Blk w' b T cs := h.kept (ho.block b h.lt hz)
theorem Blk.made (w : World) (T : TypeId) (cs : Array Value) : Blk (w.alloc (.cells cs T)) w.heap.size T cs := (MapKept.heap_alloc w _).1
theorem Blk.set {w : World} {b : Nat} {T : TypeId} {cs : Array Value} (h : Blk w b T cs) {j : Nat} (hj : j < cs.size) (v : Value) : Blk (w.setCell ⟨b, j, none⟩ v) b T (cs.set j v hj) := by
  unfold Blk at h ⊢
  have hs := (Array.getElem?_eq_some_iff.1 h)
  obtain ⟨hlt, he⟩ := hs
  simp only [World.setCell]
  rw [Array.getElem?_eq_getElem (by simpa using hlt)]
  simp [Array.getElem_modify, he, Array.setIfInBounds, hj]
set_option maxHeartbeats 1000000 in
theorem undo_new (w : World) : Calls Tryz.prog 73 #[.int .i64 1048576] w fun e w' => e = .returned (.tuple #[.pointer (some ⟨w.heap.size, 0, none⟩), .int .i64 0]) ∧ Below w.heap.size w w' ∧ w'.heap.size = w.heap.size + 1 ∧
    Blk w' w.heap.size 173 #[.int .i64 1048576, .slice none 0 0, .slice none 0 0, .int .i64 (-1), .int .i64 0, .int .i64 0] := by
  go_enter Tryz.func73, Tryz.ntmps73
  go_wp2_with fail
  go_ret2
  exact ⟨rfl, below1 w _, by simp, Blk.made w _ _⟩
set_option maxHeartbeats 1000000 in
theorem props_new (w : World) : Calls Tryz.prog 75 #[] w fun e w' => e = .returned (.pointer (some ⟨w.heap.size, 0, none⟩)) ∧ Below w.heap.size w w' ∧ w'.heap.size = w.heap.size + 1 ∧
    Blk w' w.heap.size 183 #[.slice none 0 0, .bool true] := by
  go_enter Tryz.func75, Tryz.ntmps75
  go_wp2_with fail
  go_ret
  exact ⟨rfl, below1 w _, by simp, Blk.made w _ _⟩
set_option maxHeartbeats 1000000 in
theorem overs_new (w : World) (p e : Int) : Calls Tryz.prog 76 #[.int .i64 p, .int .i64 e] w fun r w' => r = .returned (.pointer (some ⟨w.heap.size, 0, none⟩)) ∧ Below w.heap.size w w' ∧ w'.heap.size = w.heap.size + 1 ∧
    Blk w' w.heap.size 186 #[.int .i64 p, .int .i64 e, .slice none 0 0, .int .i64 0, .bool true] := by
  go_enter Tryz.func76, Tryz.ntmps76
  go_wp2_with fail
  go_ret
  exact ⟨rfl, below1 w _, by simp, Blk.made w _ _⟩
set_option maxHeartbeats 1000000 in
theorem marks_new (w : World) : Calls Tryz.prog 74 #[] w fun e w' => e = .returned (.pointer (some ⟨w.heap.size + 1, 0, none⟩)) ∧ Below w.heap.size w w' ∧ w'.heap.size = w.heap.size + 2 ∧
    Blk w' (w.heap.size + 1) 180 #[.map (some w.heap.size), .int .i64 0] ∧ w'.heap[w.heap.size]? = some (.map #[] 0) := by
  have hmm := @run_makeMap Tryz.prog
  go_enter Tryz.func74, Tryz.ntmps74
  go_wp2_with fail
  go_ret
  refine ⟨rfl, (below1 w _).alloc (by simp) _, by simp, ?_, ?_⟩
  · have := Blk.made (w.alloc (.map #[] 0)) 180 #[.map (some w.heap.size), .int .i64 0]
    simpa using this
  · exact ((MapKept.heap_alloc _ _).2 _ (by simp)).trans (MapKept.heap_alloc w _).1
end Go.Proofs.YtnbccoelbfgmgaaGreatDoor
/- Slices of elements of whatever number of cells: read as a list (nil let in); owned; append to an owned one from whatever source. -/
namespace Go.Proofs.YtnbccoelbfgmgaaGreatDoor
open Go.RowKit
set_option linter.unusedVariables false

/-- What is known of an element type: the slice's type T, the element's E, its cells, bytes, zero. -/
structure Elt {α : Type} (enc : α → List Value) (T E k by_ : Nat) (z : Value) : Prop where
  ht : Tryz.prog.underlying T = some (.slice E)
  info : (Tryz.prog.info? E).map (fun i => (i.zero, i.size, i.bytes)) = some (some z, k, by_)
  zs : z.cells.size = k
  k0 : 0 < k
  len : ∀ x, (enc x).length = k
  one : ∀ x, ∀ u ∈ enc x, u.oneCell' = true

section
variable {α : Type} (enc : α → List Value) (E k : Nat)
def cellsL (xs : List α) : List Value := xs.flatMap enc
/-- The slice '.slice A n c' reads as zs. -/
def RSl (w : World) (A : Option Addr) (zs : List α) : Prop := 0 < zs.length → ∃ g o, A = some ⟨g, o, none⟩ ∧ g < w.heap.size ∧ ∀ j u, (cellsL enc zs)[j]? = some u → w.cell? ⟨g, o + j, none⟩ = some u
/-- The slice value v is nil, or lies alone in a block of its own; it holds zs; the block is number B or later. -/
def ROwn (B : Nat) (w : World) (v : Value) (zs : List α) : Prop := w.ownsRow B E k v zs.length (cellsL enc zs)
end

section
variable {α : Type} {enc : α → List Value} {T E k by_ B : Nat} {z : Value} {w w' : World} {A : Option Addr} {zs xs ys : List α} {v : Value}

theorem cellsL_nil : cellsL enc [] = [] := rfl
theorem cellsL_append (xs ys : List α) : cellsL enc (xs ++ ys) = cellsL enc xs ++ cellsL enc ys := by simp [cellsL]
theorem cellsL_cons (x : α) (ys : List α) : cellsL enc (x :: ys) = enc x ++ cellsL enc ys := by simp [cellsL]
theorem cellsL_length (hl : ∀ x, (enc x).length = k) : ∀ xs : List α, (cellsL enc xs).length = xs.length * k
  | [] => by simp [cellsL]
  | x :: xs => by rw [cellsL_cons, List.length_append, hl, cellsL_length hl xs, List.length_cons, Nat.add_mul]; omega
theorem cellsL_at (hl : ∀ x, (enc x).length = k) : ∀ (xs : List α) (i : Nat) (x : α) (j : Nat), xs[i]? = some x → j < k → (cellsL enc xs)[i * k + j]? = (enc x)[j]?
  | [], i, x, j, h, _ => by simp at h
  | y :: ys, 0, x, j, h, hj => by
    simp at h
    subst h
    rw [cellsL_cons, Nat.zero_mul, Nat.zero_add, List.getElem?_append_left (by rw [hl]; exact hj)]
  | y :: ys, i + 1, x, j, h, hj => by
    have h' : ys[i]? = some x := by simpa using h
    rw [cellsL_cons, List.getElem?_append_right (by rw [hl, Nat.add_mul]; omega), hl, show (i + 1) * k + j - k = i * k + j by rw [Nat.add_mul]; omega]
    exact cellsL_at hl ys i x j h' hj
theorem cellsL_take (hl : ∀ x, (enc x).length = k) (xs : List α) (n : Nat) (hn : n ≤ xs.length) : cellsL enc (xs.take n) = (cellsL enc xs).take (n * k) := by
  have e : cellsL enc xs = cellsL enc (xs.take n) ++ cellsL enc (xs.drop n) := by rw [← cellsL_append, List.take_append_drop]
  have hlen : (cellsL enc (xs.take n)).length = n * k := by rw [cellsL_length hl, List.length_take, Nat.min_eq_left hn]
  rw [e, ← hlen, List.take_left]
theorem cellsL_drop (hl : ∀ x, (enc x).length = k) (xs : List α) (n : Nat) (hn : n ≤ xs.length) : cellsL enc (xs.drop n) = (cellsL enc xs).drop (n * k) := by
  have e : cellsL enc xs = cellsL enc (xs.take n) ++ cellsL enc (xs.drop n) := by rw [← cellsL_append, List.take_append_drop]
  have hlen : (cellsL enc (xs.take n)).length = n * k := by rw [cellsL_length hl, List.length_take, Nat.min_eq_left hn]
  rw [e, ← hlen, List.drop_left]

theorem RSl.nil (w : World) (A : Option Addr) : RSl enc w A [] := fun h => by simp at h
theorem RSl.kept (h : RSl enc w A zs) (hs : w.heap.size ≤ w'.heap.size) (hk : ∀ g o, A = some ⟨g, o, none⟩ → w'.heap[g]? = w.heap[g]?) : RSl enc w' A zs := fun hp => by
  obtain ⟨g, o, e, hg, hc⟩ := h hp
  exact ⟨g, o, e, by omega, fun j z hz => (World.cell?_of_block (w := w) (a := ⟨g, o + j, none⟩) (hk g o e)).trans (hc j z hz)⟩
theorem RSl.up {w0 w : World} (h : RSl enc w0 A ys) (hb : Below w0.heap.size w0 w) : RSl enc w A ys := fun hp => by
  obtain ⟨g, o, e, hg, hc⟩ := h hp
  exact ⟨g, o, e, Nat.lt_of_lt_of_le hg hb.size, fun j z hz => (World.cell?_of_block (w := w0) (a := ⟨g, o + j, none⟩) (hb.block g hg)).trans (hc j z hz)⟩
theorem RSl.take (I : Elt enc T E k by_ z) (h : RSl enc w A zs) (n : Nat) : RSl enc w A (zs.take n) := fun hp => by
  obtain ⟨g, o, e, hg, hc⟩ := h (by rw [List.length_take] at hp; omega)
  refine ⟨g, o, e, hg, fun j u hu => hc j u ?_⟩
  rcases Nat.le_total n zs.length with hn | hn
  · rw [cellsL_take I.len zs n hn, List.getElem?_take] at hu
    split at hu
    · exact hu
    · cases hu
  · rwa [List.take_of_length_le hn] at hu
theorem RSl.drop (I : Elt enc T E k by_ z) (h : RSl enc w A zs) {n cap : Nat} (hn : n ≤ zs.length) (hc : zs.length ≤ cap) : RSl enc w (if cap = n then A else A.map (·.add (n * k))) (zs.drop n) := fun hp => by
  rw [List.length_drop] at hp
  obtain ⟨g, o, rfl, hg, hcell⟩ := h (by omega)
  rw [if_neg (by omega)]
  refine ⟨g, o + n * k, by simp [Addr.add], hg, fun j u hu => ?_⟩
  rw [cellsL_drop I.len zs n hn, List.getElem?_drop] at hu
  rw [Nat.add_assoc]; exact hcell _ _ hu
/-- The cells of element i. -/
theorem RSl.at_ (I : Elt enc T E k by_ z) (h : RSl enc w A zs) {i : Nat} {x : α} (hi : zs[i]? = some x) : ∃ g o, A = some ⟨g, o, none⟩ ∧ g < w.heap.size ∧ ∀ j u, (enc x)[j]? = some u → w.cell? ⟨g, o + (i * k + j), none⟩ = some u := by
  obtain ⟨g, o, e, hg, hc⟩ := h (by have := (List.getElem?_eq_some_iff.1 hi).1; omega)
  refine ⟨g, o, e, hg, fun j u hu => hc _ u ?_⟩
  rw [cellsL_at I.len zs i x j hi (by have := (List.getElem?_eq_some_iff.1 hu).1; rw [I.len] at this; exact this)]
  exact hu
theorem ROwn.shape (I : Elt enc T E k by_ z) (h : ROwn enc E k B w v zs) : ∃ A cap, v = .slice A zs.length cap ∧ zs.length ≤ cap ∧ cap ≤ maxLen ∧ RSl enc w A zs := by
  rcases h.2 with ⟨rfl, h0⟩ | ⟨g, cap, cur, rfl, _, hg, hnc, hcm, hsz, htk⟩
  · have : zs = [] := List.eq_nil_of_length_eq_zero h0
    subst this
    exact ⟨none, 0, rfl, by simp, by simp, RSl.nil _ _⟩
  · refine ⟨_, cap, rfl, hnc, hcm, fun hp => ⟨g, 0, rfl, (Array.getElem?_eq_some_iff.1 hg).1, fun j u hu => ?_⟩⟩
    have hj : j < (cellsL enc zs).length := (List.getElem?_eq_some_iff.1 hu).1
    rw [← htk, List.getElem?_take] at hu
    split at hu
    · simp only [World.cell?, hg, Nat.zero_add]
      simpa using hu
    · cases hu
theorem ROwn.nil (B : Nat) (w : World) : ROwn enc E k B w (.slice none 0 0) [] := ⟨by simp [cellsL], .inl ⟨rfl, rfl⟩⟩
theorem ROwn.kept (h : ROwn enc E k B w v zs) (hk : ∀ g, v.ownBlock = some g → w'.heap[g]? = w.heap[g]?) : ROwn enc E k B w' v zs := by
  refine ⟨h.1, ?_⟩
  rcases h.2 with h0 | ⟨g, cap, cur, rfl, hb, hg, r⟩
  · exact .inl h0
  · exact .inr ⟨g, cap, cur, rfl, hb, (hk g rfl).trans hg, r⟩
theorem ROwn.base (h : ROwn enc E k B w v zs) {g : Nat} (hg : v.ownBlock = some g) : B ≤ g := by
  rcases h.2 with ⟨rfl, _⟩ | ⟨g', cap, cur, rfl, hb, hh, r⟩
  · simp [Value.ownBlock] at hg
  · simp [Value.ownBlock] at hg; subst hg; exact hb
theorem ROwn.empty (B : Nat) (w : World) (h : B ≤ w.heap.size) : ROwn enc E k B (w.alloc (.cells #[] E)) (.slice (some ⟨w.heap.size, 0, none⟩) 0 0) [] :=
  ⟨by simp [cellsL], .inr ⟨w.heap.size, 0, #[], rfl, h, (MapKept.heap_alloc w _).1, by simp, by simp, by simp, by simp [cellsL]⟩⟩
theorem ROwn.lt (h : ROwn enc E k B w v zs) {g : Nat} (hg : v.ownBlock = some g) : g < w.heap.size := by
  rcases h.2 with ⟨rfl, _⟩ | ⟨g', cap, cur, rfl, hb, hh, r⟩
  · simp [Value.ownBlock] at hg
  · simp [Value.ownBlock] at hg; subst hg; exact (Array.getElem?_eq_some_iff.1 hh).1
theorem ROwn.low {B' : Nat} (h : ROwn enc E k B w v zs) (hB : B' ≤ B) : ROwn enc E k B' w v zs := by
  refine ⟨h.1, ?_⟩
  rcases h.2 with h0 | ⟨g, cap, cur, rfl, hb, r⟩
  · exact .inl h0
  · exact .inr ⟨g, cap, cur, rfl, Nat.le_trans hB hb, r⟩
theorem ROwn.up (h : ROwn enc E k B w v zs) (hb : Below w.heap.size w w') : ROwn enc E k B w' v zs := h.kept fun g hg => hb.block g (h.lt hg)

/-- 'append(v, src...)'. -/
theorem append_run (I : Elt enc T E k by_ z) (h : ROwn enc E k B w v xs) (hB : B ≤ w.heap.size) (hs : RSl enc w A ys) (c : Nat) (hlen : xs.length + ys.length ≤ 1000000000) (hby : by_ ≤ 100000) :
    ∃ v' w', (∀ ty, (Builtin.append_ #[T, T] ty #[v, .slice A ys.length c]).run Tryz.prog w = .ok v' w') ∧ ROwn enc E k B w' v' (xs ++ ys) ∧ w.grownBy w' v.ownBlock ∧ (v'.ownBlock = v.ownBlock ∨ v'.ownBlock = some w.heap.size) := by
  obtain ⟨i, hi, hz0, hz1, hz2⟩ := info_parts I.info
  have one : ∀ u ∈ cellsL enc ys, u.oneCell' = true := fun u hu => by obtain ⟨x, _, hx⟩ := List.mem_flatMap.1 hu; exact I.one x u hx
  rcases A with _ | ad
  · have hy : ys = [] := by
      rcases Nat.eq_zero_or_pos ys.length with h0 | h0
      · exact List.eq_nil_of_length_eq_zero h0
      · obtain ⟨g, o, e, _⟩ := hs h0; cases e
    subst hy
    refine ⟨v, w, fun ty => ?_, by simpa using h, World.grownBy.refl w _, .inl rfl⟩
    rcases h.2 with ⟨rfl, h0⟩ | ⟨g, cap, cur, rfl, _, _, hnc, _⟩
    · simp [Builtin.append_, run_underlying I.ht, sizeOf, typeInfo, hi, Builtin.lenOf, Builtin.firstCells]
    · simp [Builtin.append_, run_underlying I.ht, sizeOf, typeInfo, hi, Builtin.lenOf, Builtin.firstCells, hnc, storeCells]
  · have hcells : ∀ j u, (cellsL enc ys)[j]? = some u → w.cell? (ad.add j) = some u := by
      intro j u hu
      have hj := (List.getElem?_eq_some_iff.1 hu).1
      rw [cellsL_length I.len] at hj
      obtain ⟨g, o, e, _, hc⟩ := hs (by rcases Nat.eq_zero_or_pos ys.length with h0 | h0
                                        · rw [h0] at hj; omega
                                        · exact h0)
      simp only [Option.some.injEq] at e
      subst e
      rw [Go.WideShapes.add_plain]; exact hc j u hu
    obtain ⟨v', w', hrun, h2, h3, _, h5⟩ := run_append_own_at (P := Tryz.prog) w B T 0 E i z k by_ I.ht hi hz0 hz1 hz2 I.zs I.k0 v xs.length (cellsL enc xs) h ad ys.length c (cellsL enc ys) (cellsL_length I.len ys) hcells one (by unfold maxLen; omega)
      (Nat.le_trans (Nat.mul_le_mul hlen hby) (by omega)) hB
    refine ⟨v', w', fun ty => hrun, ?_, h3, h5⟩
    unfold ROwn
    rw [List.length_append, cellsL_append]
    exact h2
/-- A block of one element just laid reads as that element. -/
theorem RSl.one (I : Elt enc T E k by_ z) (w : World) (x : α) : RSl enc (w.alloc (.cells (enc x).toArray E)) (some ⟨w.heap.size, 0, none⟩) [x] := by
  intro _
  refine ⟨w.heap.size, 0, rfl, by simp, fun j u hu => ?_⟩
  simp only [cellsL, List.flatMap_cons, List.flatMap_nil, List.append_nil] at hu
  simp only [World.cell?, (MapKept.heap_alloc w _).1, Nat.zero_add]
  simpa using hu
/-- 'append(v, x)': the world is the one behind the block of the one argument. -/
theorem append_elem (I : Elt enc T E k by_ z) (h : ROwn enc E k B w v xs) (hB : B ≤ w.heap.size) (x : α) (hlen : xs.length + 1 ≤ 1000000000) (hby : by_ ≤ 100000) :
    ∃ v' w', (∀ ty, (Builtin.append_ #[T, T] ty #[v, .slice (some ⟨w.heap.size, 0, none⟩) 1 1]).run Tryz.prog (w.alloc (.cells (enc x).toArray E)) = .ok v' w') ∧ ROwn enc E k B w' v' (xs ++ [x]) ∧ Below B w w' ∧ Only (fun g => v.ownBlock = some g) w w' ∧ (v'.ownBlock = v.ownBlock ∨ ∃ g, v'.ownBlock = some g ∧ w.heap.size ≤ g) := by
  have hsz : (w.alloc (.cells (enc x).toArray E)).heap.size = w.heap.size + 1 := by simp
  obtain ⟨v', w', h1, h2, h3, h4⟩ := append_run I (h.kept fun g hg => (MapKept.heap_alloc w (.cells (enc x).toArray E)).2 g (h.lt hg)) (by omega) (RSl.one I w x) 1 (by simpa using hlen) hby
  have hal := (MapKept.heap_alloc w (.cells (enc x).toArray E)).2
  refine ⟨v', w', h1, h2, ((Below.refl B w).alloc hB _).grown h3 (by omega) (fun k hk => h.base hk), ?_, ?_⟩
  · exact ⟨h3.os, h3.tape, h3.output, by have := h3.size; omega, fun i hi hs => (h3.block i (by omega) (fun e => hs e.symm)).trans (hal i hi)⟩
  · rcases h4 with h4 | h4
    · exact .inl h4
    · exact .inr ⟨_, h4, by omega⟩
/-- An append whose run is known. -/
theorem wpList_app_run {P : Program} {w w' : World} {ops : Array Oper} {rest : List Oper} {o : Oper} {a : Act} {Q : Exit → Act → World → Prop} {v u v' : Value} (hgd : o.guard = none) (s x : Operand) (t : TypeId)
    (ho : o.op = .call { callee := .builtin .append, args := #[s, x], argTypes := #[t, t] }) (hs : a.eval s = v) (hx : a.eval x = u)
    (hr : ∀ ty, (Builtin.append_ #[t, t] ty #[v, u]).run P w = .ok v' w') (h : wpList P ops Q rest (a.put o.dst v') w') : wpList P ops Q (o :: rest) a w := by
  refine wpList_plain hgd fun K hK => ?_
  unfold Oper.wp execOp
  simp only [ho, resolve, invoke, builtin, Sem.run_bind, Sem.run_pure, Result.andThen_ok, List.map_toArray, List.map_cons, List.map_nil, hs, hx, hr]
  exact hK _ _ h
/-- At a step of a region that draws: an append onto a slice made since w0 from a slice of w0. -/
theorem step_appG {w0 w : World} {ops : Array Oper} {o : Oper} {a : Act} {K : Act → World → Prop} {Q : Exit → Act → World → Prop} {C : Prop} {n c : Nat} (I : Elt enc T E k by_ z) (hby : by_ ≤ 100000) (hgd : o.guard = none) (s x : Operand)
    (ho : o.op = .call { callee := .builtin .append, args := #[s, x], argTypes := #[T, T] }) (hs : a.eval s = v) (hown : ROwn enc E k w0.heap.size w v xs) (hbel : Below w0.heap.size w0 w)
    (hx : a.eval x = .slice A n c) (hn : n = ys.length) (hsrc : RSl enc w0 A ys) (hlen : xs.length + ys.length ≤ 1000000000)
    (h : ∀ v' w', ROwn enc E k w0.heap.size w' v' (xs ++ ys) → Below w0.heap.size w0 w' → K (a.put o.dst v') w') : if Region.wanted o (yielded ops a.tmps) = true then Oper.wp Tryz.prog o a w K Q else C := by
  have hw : Region.wanted o (yielded ops a.tmps) = true := by simp [Region.wanted, hgd]
  rw [if_pos hw]
  subst hn
  obtain ⟨v', w', hr, h2, h3, h4⟩ := append_run I hown hbel.size (hsrc.up hbel) c hlen hby
  unfold Oper.wp execOp
  simp only [ho, resolve, invoke, builtin, Sem.run_bind, Sem.run_pure, Result.andThen_ok, List.map_toArray, List.map_cons, List.map_nil, hs, hx, hr]
  exact h v' w' h2 (hbel.grown h3 hbel.size (fun k hk => hown.base hk))
end
end Go.Proofs.YtnbccoelbfgmgaaGreatDoor
/- Slices of the call's own: where one lies; a cell of one element stored. -/
namespace Go.Proofs.YtnbccoelbfgmgaaGreatDoor
open Go.RowKit
set_option linter.unusedVariables false
section
variable {α : Type} {enc : α → List Value} {T E k by_ B : Nat} {z : Value} {w w' : World} {A : Option Addr} {zs xs ys : List α} {v : Value}
theorem cellsL_set (hl : ∀ x, (enc x).length = k) {j : Nat} {u : Value} {y : α} (hj : j < k) : ∀ (xs : List α) (i : Nat) (x : α), xs[i]? = some x → enc y = (enc x).set j u → cellsL enc (xs.set i y) = (cellsL enc xs).set (i * k + j) u
  | [], i, x, h, _ => by simp at h
  | a :: xs, 0, x, h, he => by
    simp at h
    subst h
    rw [List.set_cons_zero, cellsL_cons, cellsL_cons, he, Nat.zero_mul, Nat.zero_add, List.set_append_left _ _ (by rw [hl]; exact hj)]
  | a :: xs, i + 1, x, h, he => by
    have h' : xs[i]? = some x := by simpa using h
    rw [List.set_cons_succ, cellsL_cons, cellsL_cons, cellsL_set hl hj xs i x h' he, List.set_append_right _ _ (by rw [hl, Nat.add_mul]; omega), hl, show (i + 1) * k + j - k = i * k + j by rw [Nat.add_mul]; omega]
/-- A slice of the call's own that is not empty: where it lies. -/
theorem ROwn.lies (I : Elt enc T E k by_ z) (h : ROwn enc E k B w v zs) (hp : 0 < zs.length) : ∃ g cap, v = .slice (some ⟨g, 0, none⟩) zs.length cap ∧ zs.length ≤ cap ∧ cap ≤ maxLen ∧ B ≤ g ∧ g < w.heap.size ∧ (∀ j, j < zs.length * k → w.frozen? ⟨g, j, none⟩ = false) ∧
    ∀ (i : Nat) (x : α) (j : Nat) (u : Value), zs[i]? = some x → (enc x)[j]? = some u → w.cell? ⟨g, i * k + j, none⟩ = some u := by
  have hs := h.shape I
  rcases h.2 with ⟨rfl, h0⟩ | ⟨g, cap, cur, rfl, hb, hg, hnc, hcm, hsz, htk⟩
  · omega
  · refine ⟨g, cap, rfl, hnc, hcm, hb, (Array.getElem?_eq_some_iff.1 hg).1, fun j hj => by simp [World.frozen?, hg], fun i x j u hi hu => ?_⟩
    obtain ⟨A, cp, e, _, _, hR⟩ := hs
    cases e
    obtain ⟨g', o, e, _, hc⟩ := hR.at_ I hi
    cases e
    have := hc j u hu
    rwa [Nat.zero_add] at this
theorem ROwn.put (I : Elt enc T E k by_ z) {g cap : Nat} (h : ROwn enc E k B w (.slice (some ⟨g, 0, none⟩) xs.length cap) xs) {i j : Nat} {x y : α} {u : Value} (hi : xs[i]? = some x) (hj : j < k) (he : enc y = (enc x).set j u) :
    ROwn enc E k B (w.setCell ⟨g, i * k + j, none⟩ u) (.slice (some ⟨g, 0, none⟩) xs.length cap) (xs.set i y) := by
  have := (World.ownsRow.stored h (i * k + j) u).1
  unfold ROwn
  rw [List.length_set, cellsL_set I.len hj xs i x hi he]
  exact this
end
section
variable {α : Type} {enc : α → List Value} {T E k by_ B : Nat} {z : Value} {w w' : World} {A : Option Addr} {zs xs ys : List α} {v : Value}
theorem ROwn.emptyAt {g : Nat} (hg : w.heap[g]? = some (.cells #[] E (0, 0))) (hB : B ≤ g) : ROwn enc E k B w (.slice (some ⟨g, 0, none⟩) 0 0) [] :=
  ⟨by simp [cellsL], .inr ⟨g, 0, #[], rfl, hB, hg, by simp, by simp, by simp, by simp [cellsL]⟩⟩
theorem RSl.oneAt {g : Nat} {x : α} {cs : Array Value} {f : Nat × Nat} (hg : w.heap[g]? = some (.cells cs E f)) (he : cs = (enc x).toArray) : RSl enc w (some ⟨g, 0, none⟩) [x] := by
  subst he
  intro _
  refine ⟨g, 0, rfl, (Array.getElem?_eq_some_iff.1 hg).1, fun j u hu => ?_⟩
  simp only [cellsL, List.flatMap_cons, List.flatMap_nil, List.append_nil] at hu
  simp only [World.cell?, hg, Nat.zero_add]
  simpa using hu
theorem al1 (w : World) (a : Obj) : (w.alloc a).drew.heap[w.heap.size]? = some a := (MapKept.heap_alloc w a).1
theorem al2a (w : World) (a b : Obj) : ((w.alloc a).alloc b).drew.heap[w.heap.size]? = some a := ((MapKept.heap_alloc (w.alloc a) b).2 _ (by simp)).trans (MapKept.heap_alloc w a).1
theorem al2b (w : World) (a b : Obj) : ((w.alloc a).alloc b).drew.heap[w.heap.size + 1]? = some b := by
  have := (MapKept.heap_alloc (w.alloc a) b).1
  have e : (w.alloc a).heap.size = w.heap.size + 1 := by simp
  rw [e] at this
  exact this
/-- At a step of a region that draws: an append onto a slice of the region's own. -/
theorem step_appW {w0 w : World} {ops : Array Oper} {o : Oper} {a : Act} {K : Act → World → Prop} {Q : Exit → Act → World → Prop} {C : Prop} {n c : Nat} (I : Elt enc T E k by_ z) (hby : by_ ≤ 100000) (hgd : o.guard = none) (s x : Operand)
    (ho : o.op = .call { callee := .builtin .append, args := #[s, x], argTypes := #[T, T] }) (hs : a.eval s = v) (hown : ROwn enc E k w0.heap.size w v xs) (hbel : Below w0.heap.size w0 w)
    (hx : a.eval x = .slice A n c) (hn : n = ys.length) (hsrc : RSl enc w A ys) (hlen : xs.length + ys.length ≤ 1000000000)
    (h : ∀ v' w', ROwn enc E k w0.heap.size w' v' (xs ++ ys) → Below w0.heap.size w0 w' → (∀ g, g < w.heap.size → v.ownBlock ≠ some g → w'.heap[g]? = w.heap[g]?) → K (a.put o.dst v') w') : if Region.wanted o (yielded ops a.tmps) = true then Oper.wp Tryz.prog o a w K Q else C := by
  have hw : Region.wanted o (yielded ops a.tmps) = true := by simp [Region.wanted, hgd]
  rw [if_pos hw]
  subst hn
  obtain ⟨v', w', hr, h2, h3, h4⟩ := append_run I hown hbel.size hsrc c hlen hby
  unfold Oper.wp execOp
  simp only [ho, resolve, invoke, builtin, Sem.run_bind, Sem.run_pure, Result.andThen_ok, List.map_toArray, List.map_cons, List.map_nil, hs, hx, hr]
  exact h v' w' h2 (hbel.grown h3 hbel.size (fun k hk => hown.base hk)) (fun g hg hne => h3.block g hg (fun e => hne e.symm))
end
end Go.Proofs.YtnbccoelbfgmgaaGreatDoor
/- package undo: none, Check, price (the kinds Clean, Point, Insert). -/
namespace Go.Proofs.YtnbccoelbfgmgaaGreatDoor
open Go.RowKit
set_option linter.unusedVariables false
set_option linter.unusedSimpArgs false
/-- The fields that must be valid, kind by kind, as they are laid. -/
def ruleB (j : Nat) : Bool := [4, 5, 8, 11, 12, 16, 20, 21, 22].contains j
def Rules (N : Nat) (w : World) : Prop := 3 < N ∧ ∀ j, j < 28 → w.cell? ⟨3, j, none⟩ = some (.bool (ruleB j))
theorem Rules.lt {N : Nat} {w : World} (h : Rules N w) : 3 < w.heap.size := lt_of_cell (h.2 0 (by omega))
theorem Rules.up {N : Nat} {w w' : World} (h : Rules N w) (hb : Below w.heap.size w w') : Rules N w' := ⟨h.1, fun j hj => (World.cell?_of_block (w := w) (a := ⟨3, j, none⟩) (hb.block 3 h.lt)).trans (h.2 j hj)⟩
theorem Rules.only {N : Nat} {Z : Nat → Prop} {w w' : World} (h : Rules N w) (ho : Only Z w w') (hz : ∀ k, Z k → N ≤ k) : Rules N w' :=
  ⟨h.1, fun j hj => (World.cell?_of_block (w := w) (a := ⟨3, j, none⟩) (ho.block 3 h.lt (fun hk => by have := hz _ hk; have := h.1; omega))).trans (h.2 j hj)⟩
/-- A change of one of the three kinds that an insertion logs. -/
abbrev chC (x : Int × Int × Int) : List Value := [.int .i64 x.1, .int .i64 x.2.1, .int .i64 x.2.2, .int .i64 0, .int .i64 0, .string ⟨#[]⟩, .int .i64 0, .int .i64 0, .bool false]
abbrev chV (x : Int × Int × Int) : Value := .agg #[.int .i64 x.1, .int .i64 x.2.1, .int .i64 x.2.2, .int .i64 0, .int .i64 0, .string ⟨#[]⟩, .int .i64 0, .int .i64 0, .bool false]
abbrev lgC (f o : Value) (c n : Int) : Array Value := #[.int .i64 1048576, f, o, .int .i64 (-1), .int .i64 c, .int .i64 n]
section
variable {w w' : World} {N l : Nat}
set_option maxHeartbeats 1000000 in
theorem unone (f o : Value) (c n : Int) (h : Blk w l 173 (lgC f o c n)) : Calls Tryz.prog 116 #[.pointer (some ⟨l, 0, none⟩)] w fun e w' => e = .returned (.bool false) ∧ w = w' := by
  have c0 := h.cell (j := 0) rfl
  clear h
  go_enter Tryz.func116, Tryz.ntmps116
  go_wp2_with fail
  go_ret
  exact ⟨rfl, rfl⟩
set_option maxHeartbeats 1000000 in
theorem uprice (k a b : Int) (hk : k = 1 ∨ k = 4 ∨ k = 6) : Calls Tryz.prog 164 #[chV (k, a, b)] w fun e w' => e = .returned (.int .i64 1) ∧ Below w.heap.size w w' := by
  have d0 : ((k : Int) == 2) = false := by rcases hk with rfl | rfl | rfl <;> rfl
  clear hk
  go_enter Tryz.func164, Tryz.ntmps164
  go_wp2_with fail
  go_ret
  exact ⟨rfl, below1 w _⟩
set_option maxHeartbeats 2000000 in
theorem ucheck6 (h : Rules N w) : Calls Tryz.prog 243 #[chV (6, 0, 0)] w fun e w' => e = .returned (.int .i64 0) ∧ Below w.heap.size w w' := by
  have b := below1 w (.cells #[.int .i64 6, .int .i64 0, .int .i64 0, .int .i64 0, .int .i64 0, .string ⟨#[]⟩, .int .i64 0, .int .i64 0, .bool false] 119)
  have q0 : _ = some (Value.bool false) := (h.up b).2 24 (by omega)
  have q1 : _ = some (Value.bool false) := (h.up b).2 25 (by omega)
  have q2 : _ = some (Value.bool false) := (h.up b).2 26 (by omega)
  have q3 : _ = some (Value.bool false) := (h.up b).2 27 (by omega)
  clear h b
  go_enter Tryz.func243, Tryz.ntmps243
  go_wp2_with fail
  all_goals (go_ret; exact ⟨rfl, (below1 w _).alloc (by simp) _⟩)
set_option maxHeartbeats 2000000 in
theorem ucheck4 (p : Nat) (h1 : 1 ≤ p) (h2 : p ≤ 1000000000) (h : Rules N w) : Calls Tryz.prog 243 #[chV (4, (p : Int), 0)] w fun e w' => e = .returned (.int .i64 0) ∧ Below w.heap.size w w' := by
  have d1 : decide ((p : Int) < 1) = false := decide_eq_false (by omega)
  have d2 : decide ((1099511627776 : Int) < (p : Int)) = false := decide_eq_false (by omega)
  clear h1 h2
  have b := below1 w (.cells #[.int .i64 4, .int .i64 (p : Int), .int .i64 0, .int .i64 0, .int .i64 0, .string ⟨#[]⟩, .int .i64 0, .int .i64 0, .bool false] 119)
  have q0 : _ = some (Value.bool true) := (h.up b).2 16 (by omega)
  have q1 : _ = some (Value.bool false) := (h.up b).2 17 (by omega)
  have q2 : _ = some (Value.bool false) := (h.up b).2 18 (by omega)
  have q3 : _ = some (Value.bool false) := (h.up b).2 19 (by omega)
  clear h b
  go_enter Tryz.func243, Tryz.ntmps243
  go_wp2_with fail
  all_goals (go_ret; exact ⟨rfl, (below1 w _).alloc (by simp) _⟩)
set_option maxHeartbeats 2000000 in
theorem ucheck1 (p q : Nat) (h1 : 1 ≤ p) (h2 : p ≤ q) (h3 : q ≤ 1000000000) (h : Rules N w) : Calls Tryz.prog 243 #[chV (1, (p : Int), (q : Int))] w fun e w' => e = .returned (.int .i64 0) ∧ Below w.heap.size w w' := by
  have d1 : decide ((p : Int) < 1) = false := decide_eq_false (by omega)
  have d2 : decide ((1099511627776 : Int) < (p : Int)) = false := decide_eq_false (by omega)
  have d3 : (q < p) = False := by simp; omega
  have d4 : decide ((1099511627776 : Int) < (q : Int)) = false := decide_eq_false (by omega)
  clear h1 h2 h3
  have b := below1 w (.cells #[.int .i64 1, .int .i64 (p : Int), .int .i64 (q : Int), .int .i64 0, .int .i64 0, .string ⟨#[]⟩, .int .i64 0, .int .i64 0, .bool false] 119)
  have q0 : _ = some (Value.bool true) := (h.up b).2 4 (by omega)
  have q1 : _ = some (Value.bool true) := (h.up b).2 5 (by omega)
  have q2 : _ = some (Value.bool false) := (h.up b).2 6 (by omega)
  have q3 : _ = some (Value.bool false) := (h.up b).2 7 (by omega)
  clear h b
  go_enter Tryz.func243, Tryz.ntmps243
  go_wp2_with fail
  all_goals (go_ret; exact ⟨rfl, (below1 w _).alloc (by simp) _⟩)
end
end Go.Proofs.YtnbccoelbfgmgaaGreatDoor
