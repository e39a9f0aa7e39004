/- Overlays: sets of numbers in maps; the plain law of OversIn. -/
import Derived.Test.YthjkdeocdhdkaaaOvAk
namespace Go.Proofs.Ythjkdeocdhdkaaa
open Go.RowKit
set_option linter.unusedVariables false
set_option linter.unusedSimpArgs false
section
variable {w w' wr : World} {b gb wb : Nat} {l lin wl : List Int} {D : List OverD} {nx pr : Int} {vin : Value}
/-- The map at block b bears true at the numbers listed, and nothing else. -/
def SetAt (w : World) (b : Nat) (l : List Int) : Prop := ∃ m, IM w b encB m ∧ (∀ id, lookM m id = if id ∈ l then some true else none) ∧ (l.Nodup → m.length = l.length)
theorem SetAt.made (w : World) : SetAt (w.alloc (.map #[] 0)) w.heap.size [] := ⟨[], IM.made w encB, fun id => by simp [lookM], fun _ => rfl⟩
theorem SetAt.kept (h : SetAt w b l) (hb : w'.heap[b]? = w.heap[b]?) : SetAt w' b l := by
  obtain ⟨m, h1, h2, h3⟩ := h; exact ⟨m, h1.kept hb, h2, h3⟩
theorem SetAt.lt (h : SetAt w b l) : b < w.heap.size := by obtain ⟨m, h1, _⟩ := h; exact h1.lt
theorem SetAt.store (h : SetAt w b l) (k : Int) : ∃ w', (Instr.mapUpdate 52 (.map (some b)) (.int .i64 k) (.bool true)).run Try.prog w = .ok () w' ∧ SetAt w' b (l ++ [k]) ∧ Only (· = b) w w' := by
  obtain ⟨m, h1, h2, h3⟩ := h
  obtain ⟨w', g1, g2, g3, g4⟩ := h1.store (P := Try.prog) mapBT keyT k true
  refine ⟨w', g1, ⟨_, g2, fun id => ?_, fun hn => ?_⟩, Only.of_grown g3 rfl⟩
  · rw [lookM_put, h2]
    by_cases e : id = k
    · subst e; simp
    · simp [e]
  · rw [length_put, h2]
    obtain ⟨n1, n2, n3⟩ := List.nodup_append.1 hn
    have hk : k ∉ l := fun hk => n3 k hk k (by simp) rfl
    simp [hk, h3 n1]
theorem SetAt.look (h : SetAt w b l) (k : Int) : (Instr.lookup 52 (.map (some b)) (.int .i64 k) false).run Try.prog w = .ok (.bool (decide (k ∈ l))) w := by
  obtain ⟨m, h1, h2, h3⟩ := h
  by_cases hk : k ∈ l
  · have := h1.look_some (P := Try.prog) mapBT keyT (k := k) (v := true) (by rw [h2, if_pos hk]) false
    simpa [hk] using this
  · have := h1.look_none (P := Try.prog) mapBT keyT (k := k) (by rw [h2, if_neg hk]) false (z := .bool false) (by kernel_rfl)
    simpa [hk] using this
theorem SetAt.size (h : SetAt w b l) (hn : l.Nodup) (ty : TypeId) : (Builtin.len_ #[52] ty #[.map (some b)]).run Try.prog w = .ok (.int .i64 l.length) w := by
  obtain ⟨m, h1, h2, h3⟩ := h
  rw [← h3 hn]
  exact h1.size mapBT ty
/-- What OversIn has beside the set of overlays: the numbers that In handed back, the set got, the set want. -/
structure InC (wr w : World) (gb wb : Nat) (vin : Value) (lin wl : List Int) : Prop where
  bel : Below wr.heap.size wr w
  own : ROwn encI 3 1 wr.heap.size w vin lin
  gm : SetAt w gb lin
  wm : SetAt w wb wl
  g0 : wr.heap.size ≤ gb
  w0 : wr.heap.size ≤ wb
  vb : vin.ownBlock ≠ some wb
  ne : gb ≠ wb
theorem InC.up (h : InC wr w gb wb vin lin wl) (hb : Below w.heap.size w w') : InC wr w' gb wb vin lin wl :=
  ⟨up2 h.bel hb, h.own.up hb, h.gm.kept (hb.block _ h.gm.lt), h.wm.kept (hb.block _ h.wm.lt), h.g0, h.w0, h.vb, h.ne⟩
theorem InC.put (h : InC wr w gb wb vin lin wl) (ho : Only (· = wb) w w') {wl' : List Int} (hs : SetAt w' wb wl') : InC wr w' gb wb vin lin wl' :=
  ⟨h.bel.trans (ho.below h.bel.size fun k hk => by rw [hk]; exact h.w0), h.own.kept fun g hg => ho.block g (h.own.lt hg) (fun e => h.vb (by rw [hg, e])), h.gm.kept (ho.block gb h.gm.lt h.ne), hs, h.g0, h.w0, h.vb, h.ne⟩
/-! ### the plain law -/
theorem in_mem (hw : WfD D nx) {f t : Int} {x : OverD} (hx : x ∈ D) (q : OverD → Bool) : (x.id ∈ (sortD pr (D.filter q)).map OverD.id) ↔ q x = true := by
  have hn := hw.nodup
  constructor
  · intro h
    obtain ⟨y, hy, he⟩ := List.mem_map.1 h
    have hy2 := List.mem_filter.1 ((sortD_perm pr _).mem_iff.1 hy)
    have : y = x := inj_of_nodup hn hy2.1 hx he
    rw [← this]; exact hy2.2
  · intro h
    exact List.mem_map.2 ⟨x, (sortD_perm pr _).mem_iff.2 (List.mem_filter.2 ⟨hx, h⟩), rfl⟩
theorem inI_mem (hw : WfD D nx) {f t : Int} {x : OverD} (hx : x ∈ D) : (x.id ∈ inI pr D f t) ↔ inB f t x = true := in_mem (f := f) (t := t) hw hx _
theorem atI_mem (hw : WfD D nx) {p : Int} {x : OverD} (hx : x ∈ D) : (x.id ∈ atI pr D p) ↔ covB p x = true := in_mem (f := p) (t := p) hw hx _
theorem atI_sub {p id : Int} (h : id ∈ atI pr D p) : ∃ x ∈ D, x.id = id := by
  unfold atI at h
  obtain ⟨y, hy, he⟩ := List.mem_map.1 h
  exact ⟨y, (List.mem_filter.1 ((sortD_perm pr _).mem_iff.1 hy)).1, he⟩
theorem inI_nodup (hw : WfD D nx) (f t : Int) : (inI pr D f t).Nodup := by
  unfold inI
  exact ((sortD_perm pr _).map OverD.id).nodup_iff.2 (hw.nodup.sublist (List.filter_sublist.map _))
theorem inI_len (f t : Int) : (inI pr D f t).length ≤ D.length := by
  unfold inI
  rw [List.length_map, (sortD_perm pr _).length_eq]
  exact List.length_filter_le _ _
theorem atI_len (p : Int) : (atI pr D p).length ≤ D.length := by
  unfold atI
  rw [List.length_map, (sortD_perm pr _).length_eq]
  exact List.length_filter_le _ _
theorem inI_none (f : Int) : inI pr D (f + 1) f = [] := by
  unfold inI
  have : D.filter (inB (f + 1) f) = [] := List.filter_eq_nil_iff.2 fun x hx => by
    unfold inB
    split
    · simp; omega
    · simp; omega
  rw [this]; simp [sortD]
/-- The numbers wanted after the positions below p. -/
def WantP (pr : Int) (D : List OverD) (f p : Int) (wl : List Int) : Prop := ∀ id, id ∈ wl ↔ ∃ q, f ≤ q ∧ q < p ∧ id ∈ atI pr D q
theorem WantP.start (f : Int) : WantP pr D f f [] := fun id => by simp; intro q h1 h2; omega
theorem WantP.step {f p : Int} (h : WantP pr D f p wl) (hp : f ≤ p) : WantP pr D f (p + 1) (wl ++ atI pr D p) := fun id => by
  rw [List.mem_append, h id]
  constructor
  · rintro (⟨q, h1, h2, h3⟩ | h3)
    · exact ⟨q, h1, by omega, h3⟩
    · exact ⟨p, hp, by omega, h3⟩
  · rintro ⟨q, h1, h2, h3⟩
    by_cases e : q = p
    · subst e; exact .inr h3
    · exact .inl ⟨q, h1, by omega, h3⟩
def emptyB (f t : Int) (x : OverD) : Bool := (decide (x.f = x.t) && decide (f ≤ x.f)) && decide (x.f ≤ t)
/-- .. and of the first k overlays those empty in the range. -/
def WantE (pr : Int) (D : List OverD) (f t : Int) (k : Nat) (wl : List Int) : Prop := ∀ id, id ∈ wl ↔ (∃ q, f ≤ q ∧ q < t ∧ id ∈ atI pr D q) ∨ ∃ x ∈ D.take k, x.id = id ∧ emptyB f t x = true
theorem WantE.start {f t : Int} (h : WantP pr D f t wl) : WantE pr D f t 0 wl := fun id => by rw [h id]; simp
theorem WantE.no {f t : Int} {k : Nat} {x : OverD} (h : WantE pr D f t k wl) (hx : D[k]? = some x) (he : emptyB f t x = false) : WantE pr D f t (k + 1) wl := fun id => by
  rw [h id, List.take_add_one, hx]
  simp only [Option.toList_some, List.mem_append, List.mem_singleton]
  constructor
  · rintro (h1 | ⟨y, h1, h2⟩)
    · exact .inl h1
    · exact .inr ⟨y, .inl h1, h2⟩
  · rintro (h1 | ⟨y, h1 | h1, h2, h3⟩)
    · exact .inl h1
    · exact .inr ⟨y, h1, h2, h3⟩
    · subst h1; rw [he] at h3; cases h3
theorem WantE.yes {f t : Int} {k : Nat} {x : OverD} (h : WantE pr D f t k wl) (hx : D[k]? = some x) (he : emptyB f t x = true) : WantE pr D f t (k + 1) (wl ++ [x.id]) := fun id => by
  rw [List.mem_append, h id, List.take_add_one, hx]
  simp only [Option.toList_some, List.mem_append, List.mem_singleton]
  constructor
  · rintro ((h1 | ⟨y, h1, h2⟩) | h1)
    · exact .inl h1
    · exact .inr ⟨y, .inl h1, h2⟩
    · exact .inr ⟨x, .inr rfl, h1.symm, he⟩
  · rintro (h1 | ⟨y, h1 | h1, h2, h3⟩)
    · exact .inl (.inl h1)
    · exact .inl (.inr ⟨y, h1, h2, h3⟩)
    · subst h1; exact .inr h2.symm
theorem want_in (hw : WfD D nx) {f t : Int} (h : WantE pr D f t D.length wl) {x : OverD} (hx : x ∈ D) : (x.id ∈ inI pr D f t) ↔ (x.id ∈ wl) := by
  rw [inI_mem hw hx, h x.id, List.take_of_length_le (Nat.le_refl _)]
  have hg := (hw.good x hx).ft
  constructor
  · intro h1
    unfold inB at h1
    split at h1
    · rename_i he
      exact .inr ⟨x, hx, rfl, by unfold emptyB; simp at h1 ⊢; exact ⟨⟨he, h1.1⟩, h1.2⟩⟩
    · rename_i he
      simp at h1
      left
      by_cases hfx : f ≤ x.f
      · exact ⟨x.f, hfx, by omega, (atI_mem hw hx).2 (by unfold covB; simp; omega)⟩
      · exact ⟨f, by omega, by omega, (atI_mem hw hx).2 (by unfold covB; simp; omega)⟩
  · rintro (⟨q, h1, h2, h3⟩ | ⟨y, h1, h2, h3⟩)
    · have h4 := (atI_mem hw hx).1 h3
      unfold covB at h4
      simp at h4
      unfold inB
      rw [if_neg (by omega)]
      simp; omega
    · have : y = x := inj_of_nodup hw.nodup h1 hx h2
      subst this
      unfold emptyB at h3
      simp at h3
      unfold inB
      rw [if_pos h3.1.1]
      simp; omega
end
end Go.Proofs.Ythjkdeocdhdkaaa
