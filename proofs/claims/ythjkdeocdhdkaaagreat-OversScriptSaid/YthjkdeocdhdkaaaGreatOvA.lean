/- Overlays in memory: the set; New, valid, place, right, find. -/
import Derived.Test.YthjkdeocdhdkaaaGreatIns
import Derived.Test.YthjkdeocdhdkaaaGreatOpen
import Derived.BigRegion
import Derived.RegionTactic
import Derived.ChangeAlike
namespace Go.Proofs.YthjkdeocdhdkaaaGreat
open Go.RowKit
set_option linter.unusedVariables false
set_option linter.unusedSimpArgs false
/-- A property: its name, its value's kind and number. -/
structure PropE where
  name : Int
  kind : Int
  n : Int
abbrev encP (p : PropE) : List Value := [.int .i64 p.name, .int .i64 p.kind, .int .i64 p.n]
theorem eltP : Elt encP 67 71 3 24 (.agg #[.int .i64 0, .int .i64 0, .int .i64 0]) :=
  ⟨Tryz.underlying67, by kernel_rfl, rfl, by omega, fun _ => rfl, fun x u hu => by simp at hu; rcases hu with rfl | rfl | rfl <;> rfl⟩
/-- What an overlay says. -/
structure OverD where
  id : Int
  f : Int
  t : Int
  fr : Bool
  re : Bool
  ps : List PropE
/-- An overlay in block g, with the slice that holds its properties. -/
structure OverE where
  id : Int
  f : Int
  t : Int
  fr : Bool
  re : Bool
  A : Option Addr
  c : Nat
  ps : List PropE
  g : Nat
def OverE.dat (x : OverE) : OverD := ⟨x.id, x.f, x.t, x.fr, x.re, x.ps⟩
abbrev OverE.pv (x : OverE) : Value := .slice x.A x.ps.length x.c
abbrev encO (x : OverE) : List Value := [.int .i64 x.id, .int .i64 x.f, .int .i64 x.t, .bool x.fr, .bool x.re, .slice x.A x.ps.length x.c]
abbrev encT (x : OverE) : List Value := [.pointer (some ⟨x.g, 0, none⟩)]
theorem eltT : Elt encT 61 72 1 8 (.pointer none) :=
  ⟨Tryz.underlying61, by kernel_rfl, rfl, by omega, fun _ => rfl, fun x u hu => by simp at hu; subst hu; rfl⟩
def ownB (v : Value) : List Nat := v.ownBlock.toList
theorem mem_ownB {v : Value} {k : Nat} : k ∈ ownB v ↔ v.ownBlock = some k := by unfold ownB; simp
def OverE.foot (x : OverE) : List Nat := x.g :: ownB x.pv
/-- An overlay lies in memory. -/
structure OverIn (w : World) (x : OverE) : Prop where
  blk : w.heap[x.g]? = some (.cells (encO x).toArray 69 (0, 0))
  own : ROwn encP 71 3 0 w x.pv x.ps
section
variable {w w' : World} {x : OverE} {L : List OverE} {b : Nat} {pr ev nx : Int} {v : Value}
theorem OverIn.kept (h : OverIn w x) (hk : ∀ k ∈ x.foot, w'.heap[k]? = w.heap[k]?) : OverIn w' x :=
  ⟨(hk x.g (by unfold OverE.foot; simp)).trans h.blk, h.own.kept fun g hg => hk g (by unfold OverE.foot; exact List.mem_cons_of_mem _ (mem_ownB.2 hg))⟩
theorem OverIn.lt (h : OverIn w x) {k : Nat} (hk : k ∈ x.foot) : k < w.heap.size := by
  unfold OverE.foot at hk
  rcases List.mem_cons.1 hk with rfl | hk
  · exact (Array.getElem?_eq_some_iff.1 h.blk).1
  · exact h.own.lt (mem_ownB.1 hk)
theorem OverIn.up (h : OverIn w x) (hb : Below w.heap.size w w') : OverIn w' x := h.kept fun k hk => hb.block k (h.lt hk)
theorem OverIn.cell (h : OverIn w x) (j : Nat) (u : Value) (hu : (encO x)[j]? = some u) : w.cell? ⟨x.g, j, none⟩ = some u := by
  simp only [World.cell?, h.blk]
  simpa using hu
theorem OverIn.fz (h : OverIn w x) (j : Nat) : w.frozen? ⟨x.g, j, none⟩ = false := by
  simp only [World.frozen?, h.blk]; rfl
def footS (b : Nat) (v : Value) (L : List OverE) : List Nat := b :: (ownB v ++ L.flatMap OverE.foot)
/-- The set of overlays at block b. -/
structure OvsAt (w : World) (b : Nat) (pr ev : Int) (v : Value) (L : List OverE) (nx : Int) : Prop where
  blk : w.heap[b]? = some (.cells #[.int .i64 pr, .int .i64 ev, v, .int .i64 nx, .bool true] 63 (0, 0))
  own : ROwn encT 72 1 0 w v L
  ins : ∀ x ∈ L, OverIn w x
  fx : ∀ x ∈ L, ∀ k, x.pv.ownBlock = some k → k ≠ x.g
  pw : L.Pairwise (fun x y => ∀ k, k ∈ x.foot → k ∉ y.foot)
  nb : ∀ x ∈ L, b ∉ x.foot ∧ ∀ k, v.ownBlock = some k → k ∉ x.foot
  vb : v.ownBlock ≠ some b
theorem foot_b : b ∈ footS b v L := by unfold footS; simp
theorem foot_v {k : Nat} (h : v.ownBlock = some k) : k ∈ footS b v L := by unfold footS; exact List.mem_cons_of_mem _ (List.mem_append_left _ (mem_ownB.2 h))
theorem foot_x {k : Nat} (hx : x ∈ L) (h : k ∈ x.foot) : k ∈ footS b v L := by unfold footS; exact List.mem_cons_of_mem _ (List.mem_append_right _ (List.mem_flatMap.2 ⟨x, hx, h⟩))
theorem foot_cases {k : Nat} (h : k ∈ footS b v L) : k = b ∨ v.ownBlock = some k ∨ ∃ x ∈ L, k ∈ x.foot := by
  unfold footS at h
  rcases List.mem_cons.1 h with h | h
  · exact .inl h
  rcases List.mem_append.1 h with h | h
  · exact .inr (.inl (mem_ownB.1 h))
  · exact .inr (.inr (List.mem_flatMap.1 h))
theorem OvsAt.lt (h : OvsAt w b pr ev v L nx) {k : Nat} (hk : k ∈ footS b v L) : k < w.heap.size := by
  rcases foot_cases hk with rfl | hk | ⟨x, hx, hk⟩
  · exact (Array.getElem?_eq_some_iff.1 h.blk).1
  · exact h.own.lt hk
  · exact (h.ins x hx).lt hk
theorem OvsAt.kept (h : OvsAt w b pr ev v L nx) (hk : ∀ k ∈ footS b v L, w'.heap[k]? = w.heap[k]?) : OvsAt w' b pr ev v L nx :=
  ⟨(hk b foot_b).trans h.blk, h.own.kept fun g hg => hk g (foot_v hg), fun x hx => (h.ins x hx).kept fun k hk' => hk k (foot_x hx hk'), h.fx, h.pw, h.nb, h.vb⟩
theorem OvsAt.up (h : OvsAt w b pr ev v L nx) (hb : Below w.heap.size w w') : OvsAt w' b pr ev v L nx := h.kept fun k hk => hb.block k (h.lt hk)
theorem OvsAt.cell (h : OvsAt w b pr ev v L nx) (j : Nat) (u : Value) (hu : [Value.int .i64 pr, .int .i64 ev, v, .int .i64 nx, .bool true][j]? = some u) : w.cell? ⟨b, j, none⟩ = some u := by
  simp only [World.cell?, h.blk]
  simpa using hu
theorem OvsAt.fz (h : OvsAt w b pr ev v L nx) (j : Nat) : w.frozen? ⟨b, j, none⟩ = false := by
  simp only [World.frozen?, h.blk]; rfl
theorem OvsAt.blt (h : OvsAt w b pr ev v L nx) : b < w.heap.size := h.lt foot_b

/-- After a call that may change the set. -/
def OPost (w : World) (b : Nat) (pr ev : Int) (v : Value) (L : List OverE) (ret : Value) (D : List OverD) (nx : Int) (e : Ending) (w' : World) : Prop :=
  ∃ v' L', e = .returned ret ∧ OvsAt w' b pr ev v' L' nx ∧ L'.map OverE.dat = D ∧ Only (· ∈ footS b v L) w w' ∧ ∀ k ∈ footS b v' L', k ∈ footS b v L ∨ w.heap.size ≤ k
theorem OPost.same {ret : Value} (h : OvsAt w b pr ev v L nx) (hb : Below w.heap.size w w') : OPost w b pr ev v L ret (L.map OverE.dat) nx (.returned ret) w' :=
  ⟨v, L, rfl, h.up hb, rfl, Only.of_below hb, fun k hk => .inl hk⟩
theorem foot_g (x : OverE) : x.g ∈ x.foot := by unfold OverE.foot; simp
theorem cellsT_set {k : Nat} {y : OverE} (hx : L[k]? = some x) (hg : y.g = x.g) : cellsL encT (L.set k y) = cellsL encT L := by
  induction L generalizing k with
  | nil => rfl
  | cons a L ih =>
    cases k with
    | zero => simp at hx; subst hx; rw [List.set_cons_zero, cellsL_cons, cellsL_cons]; simp [encT, hg]
    | succ k => rw [List.set_cons_succ, cellsL_cons, cellsL_cons, ih (by simpa using hx)]
/-- One overlay is put in another's place, in the same block. -/
theorem OvsAt.put {k : Nat} {y : OverE} (h : OvsAt w b pr ev v L nx) (hx : L[k]? = some x) (hg : y.g = x.g) (hy : OverIn w' y) (hyx : ∀ j, y.pv.ownBlock = some j → j ≠ y.g) (hyf : ∀ j ∈ y.foot, j ∈ x.foot ∨ w.heap.size ≤ j)
    (hk : ∀ j, j < w.heap.size → j ∉ x.foot → w'.heap[j]? = w.heap[j]?) : OvsAt w' b pr ev v (L.set k y) nx := by
  have hxm := List.mem_of_getElem? hx
  obtain ⟨hkl, hke⟩ := List.getElem?_eq_some_iff.1 hx
  have hin : ∀ z ∈ L, ∀ (i : Nat), L[i]? = some z → i ≠ k → ∀ j ∈ z.foot, j ∉ x.foot := fun z hz i hi hne j hj hjx => by
    obtain ⟨hil, hie⟩ := List.getElem?_eq_some_iff.1 hi
    rcases Nat.lt_or_gt_of_ne hne with h1 | h1
    · have := List.pairwise_iff_getElem.1 h.pw i k hil hkl h1
      rw [hie, hke] at this
      exact this j hj hjx
    · have := List.pairwise_iff_getElem.1 h.pw k i hkl hil h1
      rw [hie, hke] at this
      exact this j hjx hj
  refine ⟨(hk b h.blt (h.nb x hxm).1).trans h.blk, ?_, fun z hz => ?_, fun z hz => ?_, ?_, fun z hz => ?_, h.vb⟩
  · have h1 := h.own.kept (w' := w') fun g hg' => hk g (h.own.lt hg') ((h.nb x hxm).2 g hg')
    unfold ROwn at h1 ⊢
    rw [List.length_set, cellsT_set hx hg]; exact h1
  · obtain ⟨i, hi⟩ := List.mem_iff_getElem?.1 hz
    by_cases e : k = i
    · subst e; rw [List.getElem?_set_self hkl] at hi; cases hi; exact hy
    · rw [List.getElem?_set_ne e] at hi
      have hzm := List.mem_of_getElem? hi
      exact (h.ins z hzm).kept fun j hj => hk j ((h.ins z hzm).lt hj) (hin z hzm i hi (Ne.symm e) j hj)
  · rcases List.mem_or_eq_of_mem_set hz with h1 | rfl
    · exact h.fx z h1
    · exact hyx
  · rw [List.pairwise_iff_getElem]
    intro i j hi hj hij
    simp only [List.length_set] at hi hj
    have hiL : L[i]? = some L[i] := List.getElem?_eq_getElem hi
    have hjL : L[j]? = some L[j] := List.getElem?_eq_getElem hj
    rw [List.getElem_set, List.getElem_set]
    by_cases e1 : k = i
    · have e2 : ¬ k = j := by omega
      rw [if_pos e1, if_neg e2]
      intro q hq hqj
      rcases hyf q hq with h1 | h1
      · exact hin _ (List.getElem_mem hj) j hjL (Ne.symm e2) q hqj h1
      · have := (h.ins _ (List.getElem_mem hj)).lt hqj; omega
    · rw [if_neg e1]
      by_cases e2 : k = j
      · rw [if_pos e2]
        intro q hq hqj
        rcases hyf q hqj with h1 | h1
        · exact hin _ (List.getElem_mem hi) i hiL (Ne.symm e1) q hq h1
        · have := (h.ins _ (List.getElem_mem hi)).lt hq; omega
      · rw [if_neg e2]
        exact List.pairwise_iff_getElem.1 h.pw i j hi hj hij
  · rcases List.mem_or_eq_of_mem_set hz with h1 | rfl
    · exact h.nb z h1
    · refine ⟨fun hb => ?_, fun q hq hqz => ?_⟩
      · rcases hyf b hb with h1 | h1
        · exact (h.nb x hxm).1 h1
        · have := h.blt; omega
      · rcases hyf q hqz with h1 | h1
        · exact (h.nb x hxm).2 q hq h1
        · have := h.own.lt hq; omega
theorem foot_set {k : Nat} {y : OverE} (hx : L[k]? = some x) (hyf : ∀ j ∈ y.foot, j ∈ x.foot ∨ w.heap.size ≤ j) : ∀ j ∈ footS b v (L.set k y), j ∈ footS b v L ∨ w.heap.size ≤ j := by
  intro j hj
  rcases foot_cases hj with rfl | h1 | ⟨z, hz, h1⟩
  · exact .inl foot_b
  · exact .inl (foot_v h1)
  · rcases List.mem_or_eq_of_mem_set hz with h2 | rfl
    · exact .inl (foot_x h2 h1)
    · rcases hyf j h1 with h3 | h3
      · exact .inl (foot_x (List.mem_of_getElem? hx) h3)
      · exact .inr h3
def ONew (w : World) (pr ev : Int) (e : Ending) (w' : World) : Prop := ∃ b, e = .returned (.pointer (some ⟨b, 0, none⟩)) ∧ w.heap.size ≤ b ∧ OvsAt w' b pr ev (.slice none 0 0) [] 0 ∧ Below w.heap.size w w'
theorem onew_any (pr ev : Int) (w : World) : Calls Tryz.prog 5 #[.int .i64 pr, .int .i64 ev] w (ONew w pr ev) := by
  go_enter Tryz.func5, Tryz.ntmps5
  go_wp2
  go_ret
  exact ⟨_, rfl, Nat.le_refl _, ⟨(MapKept.heap_alloc w _).1, ROwn.nil _ _, by simp, by simp, List.Pairwise.nil, by simp, by simp [Value.ownBlock]⟩, below1 w _⟩
theorem ovalid (h : OvsAt w b pr ev v L nx) : Calls Tryz.prog 44 #[.pointer (some ⟨b, 0, none⟩)] w fun e w' => e = .returned (.bool true) ∧ w = w' := by
  have c4 := h.cell 4 _ rfl
  go_enter Tryz.func44, Tryz.ntmps44
  go_wp2
  go_ret
  exact ⟨rfl, rfl⟩
def placeI (a : Int) : Bool := decide (1 ≤ a) && decide (a ≤ 1099511627776)
set_option maxHeartbeats 400000 in
theorem place_any (a : Int) (w : World) : Calls Tryz.prog 65 #[.int .i64 a] w fun e w' => e = .returned (.bool (placeI a)) ∧ w = w' := by
  go_enter Tryz.func65, Tryz.ntmps65
  go_wp2
  all_goals (go_ret; exact ⟨ret_bool (Bool.eq_iff_iff.2 (by simp [placeI] <;> omega)), rfl⟩)
def rightI (f t : Int) : Bool := placeI f && (placeI t && decide (f ≤ t))
set_option maxHeartbeats 400000 in
theorem right_any (f t : Int) (w : World) : Calls Tryz.prog 56 #[.int .i64 f, .int .i64 t] w fun e w' => e = .returned (.bool (rightI f t)) ∧ w = w' := by
  have H1 := Lib.hid (place_any f w)
  have H2 := Lib.hid (place_any t w)
  unfold rightI
  cases h1 : placeI f with
  | false =>
    rw [h1] at H1
    clear h1
    go_enter Tryz.func56, Tryz.ntmps56
    go_wp2_with fail
    refine H1.out.mono ?_
    rintro e w' ⟨rfl, rfl⟩
    go_wp2_with fail
    go_ret
    exact ⟨rfl, rfl⟩
  | true =>
    rw [h1] at H1
    clear h1
    cases h2 : placeI t with
    | false =>
      rw [h2] at H2
      clear h2
      go_enter Tryz.func56, Tryz.ntmps56
      go_wp2_with fail
      refine H1.out.mono ?_
      rintro e w' ⟨rfl, rfl⟩
      go_wp2_with fail
      refine H2.out.mono ?_
      rintro e w' ⟨rfl, rfl⟩
      go_wp2_with fail
      go_ret
      exact ⟨rfl, rfl⟩
    | true =>
      rw [h2] at H2
      clear h2
      go_enter Tryz.func56, Tryz.ntmps56
      go_wp2_with fail
      refine H1.out.mono ?_
      rintro e w' ⟨rfl, rfl⟩
      go_wp2_with fail
      refine H2.out.mono ?_
      rintro e w' ⟨rfl, rfl⟩
      go_wp2_with fail
      go_ret
      exact ⟨rfl, rfl⟩
end
end Go.Proofs.YthjkdeocdhdkaaaGreat
