import Derived.Test.YthjkdeocdhdkaaaGreatOvVl
/- Overlays, the reference: plain laws (put, take, look up, insertion sort, In). -/
namespace Go.Proofs.YthjkdeocdhdkaaaGreat
open Go.RowKit
set_option linter.unusedVariables false
set_option linter.unusedSimpArgs false
section
variable {ps : List PropE} {nm k n pr : Int}
theorem SortedP.tail {p : PropE} (h : SortedP (p :: ps)) : SortedP ps := (List.pairwise_cons.1 h).2
theorem SortedP.head {p : PropE} (h : SortedP (p :: ps)) : ∀ q ∈ ps, p.name < q.name := fun q hq => (List.pairwise_cons.1 h).1 q.name (List.mem_map.2 ⟨q, hq, rfl⟩)
theorem ixP_cons_lt {p : PropE} (h : p.name < nm) : ixP (p :: ps) nm = ixP ps nm + 1 := by simp [ixP, List.takeWhile_cons, h]
theorem ixP_cons_ge {p : PropE} (h : ¬ p.name < nm) : ixP (p :: ps) nm = 0 := by simp [ixP, List.takeWhile_cons, h]
theorem isP_cons_lt {p : PropE} (h : p.name < nm) : isP (p :: ps) nm = isP ps nm := by unfold isP; rw [ixP_cons_lt h, List.getElem?_cons_succ]
theorem isP_cons_ge {p : PropE} (h : ¬ p.name < nm) : isP (p :: ps) nm = (p.name == nm) := by unfold isP; rw [ixP_cons_ge h, List.getElem?_cons_zero]
/-- The reference's Put, one property further. -/
def rputS (nm k n : Int) (s : List PropE × Bool) (x : PropE) : List PropE × Bool :=
  let s1 := if s.2 = false ∧ nm ≤ x.name then (s.1 ++ [⟨nm, k, n⟩], true) else s
  if x.name = nm then s1 else (s1.1 ++ [x], s1.2)
def rputF (nm k n : Int) (ps : List PropE) : List PropE × Bool := ps.foldl (rputS nm k n) ([], false)
def rput (nm k n : Int) (ps : List PropE) : List PropE := if (rputF nm k n ps).2 then (rputF nm k n ps).1 else (rputF nm k n ps).1 ++ [⟨nm, k, n⟩]
theorem rput_done : ∀ (ps : List PropE) (acc : List PropE), (∀ p ∈ ps, p.name ≠ nm) → ps.foldl (rputS nm k n) (acc, true) = (acc ++ ps, true)
  | [], acc, _ => by simp
  | p :: ps, acc, h => by
    have e : rputS nm k n (acc, true) p = (acc ++ [p], true) := by unfold rputS; simp [h p (by simp)]
    rw [List.foldl_cons, e, rput_done ps _ fun q hq => h q (by simp [hq])]
    simp
theorem rput_go : ∀ (ps : List PropE) (acc : List PropE), SortedP ps →
    (let s := ps.foldl (rputS nm k n) (acc, false); if s.2 then s.1 else s.1 ++ [⟨nm, k, n⟩]) = acc ++ putPs ps nm k n
  | [], acc, _ => by simp [putPs, isP, ixP]
  | p :: ps, acc, h => by
    rw [List.foldl_cons]
    by_cases h1 : p.name < nm
    · have e : rputS nm k n (acc, false) p = (acc ++ [p], false) := by
        have g1 : ¬ nm ≤ p.name := by omega
        have g2 : p.name ≠ nm := by omega
        simp [rputS, g1, g2]
      rw [e, rput_go ps _ h.tail]
      unfold putPs
      rw [isP_cons_lt h1, ixP_cons_lt h1]
      split <;> simp
    · by_cases h2 : p.name = nm
      · have e : rputS nm k n (acc, false) p = (acc ++ [⟨nm, k, n⟩], true) := by
          have g1 : nm ≤ p.name := by omega
          simp [rputS, g1, h2]
        rw [e, rput_done ps _ fun q hq => by have := h.head q hq; omega]
        unfold putPs
        rw [isP_cons_ge h1, ixP_cons_ge h1, show (p.name == nm) = true by simpa using h2]
        simp
      · have e : rputS nm k n (acc, false) p = (acc ++ [⟨nm, k, n⟩] ++ [p], true) := by
          have g1 : nm ≤ p.name := by omega
          simp [rputS, g1, h2]
        rw [e, rput_done ps _ fun q hq => by have := h.head q hq; omega]
        unfold putPs
        rw [isP_cons_ge h1, ixP_cons_ge h1, show (p.name == nm) = false by simpa using h2]
        simp
theorem rput_eq (h : SortedP ps) : rput nm k n ps = putPs ps nm k n := by
  have := rput_go (nm := nm) (k := k) (n := n) ps [] h
  rw [List.nil_append] at this
  exact this
theorem rtake_eq : ∀ (ps : List PropE), SortedP ps → ps.filter (fun p => p.name != nm) = takePs ps nm
  | [], _ => by simp [takePs, isP, ixP]
  | p :: ps, h => by
    by_cases h1 : p.name < nm
    · rw [List.filter_cons, if_pos (by simp; omega), rtake_eq ps h.tail]
      unfold takePs
      rw [isP_cons_lt h1, ixP_cons_lt h1]
      split <;> simp
    · have hall : ps.filter (fun p => p.name != nm) = ps := List.filter_eq_self.2 fun q hq => by
        have := h.head q hq
        simp; omega
      unfold takePs
      rw [isP_cons_ge h1, ixP_cons_ge h1, List.filter_cons, hall]
      by_cases h2 : p.name = nm
      · simp [h2]
      · simp [h2]
theorem rval_eq : ∀ (ps : List PropE), SortedP ps → (ps.find? (fun p => p.name == nm)).map (fun p => (p.kind, p.n)) = valP ps nm
  | [], _ => by simp [valP, isP, ixP]
  | p :: ps, h => by
    by_cases h1 : p.name < nm
    · rw [List.find?_cons_of_neg (by simp; omega), rval_eq ps h.tail]
      unfold valP
      rw [isP_cons_lt h1, ixP_cons_lt h1, List.getElem?_cons_succ]
    · unfold valP
      rw [isP_cons_ge h1, ixP_cons_ge h1, List.getElem?_cons_zero]
      by_cases h2 : p.name = nm
      · simp [h2]
      · rw [List.find?_cons_of_neg (by simpa using h2), List.find?_eq_none.2 fun q hq => by have := h.head q hq; simp; omega]
        simp [h2]
/-! ### the insertion sort -/
def lessD (pr : Int) (x y : OverD) : Bool := decide (cfD pr x y < 0)
/-- Where x goes into s. -/
def insP (pr : Int) (s : List OverD) (x : OverD) : Nat := s.length - (s.reverse.takeWhile fun y => lessD pr x y).length
def insS (pr : Int) (s : List OverD) (x : OverD) : List OverD := s.take (insP pr s x) ++ x :: s.drop (insP pr s x)
theorem cfD_total {x y : OverD} (hne : x.id ≠ y.id) : cfD pr x y < 0 ∨ cfD pr y x < 0 := by
  rw [cfD_lt, cfD_lt]; omega
theorem cfD_trans {x y z : OverD} (h1 : cfD pr x y < 0) (h2 : cfD pr y z < 0) : cfD pr x z < 0 := by
  rw [cfD_lt] at h1 h2 ⊢; omega
theorem insP_le (s : List OverD) (x : OverD) : insP pr s x ≤ s.length := Nat.sub_le _ _
theorem insP_ge {s : List OverD} {x y : OverD} {j : Nat} (hj : insP pr s x ≤ j) (hy : s[j]? = some y) : lessD pr x y = true := by
  have hjl := (List.getElem?_eq_some_iff.1 hy).1
  have hr : s.reverse[s.length - 1 - j]? = some y := by rw [List.getElem?_reverse (by omega), show s.length - 1 - (s.length - 1 - j) = j by omega]; exact hy
  have hlen : (s.reverse.takeWhile fun y => lessD pr x y).length ≤ s.length := by
    have := (List.takeWhile_sublist (fun y => lessD pr x y) (l := s.reverse)).length_le
    simpa using this
  have hlt : s.length - 1 - j < (s.reverse.takeWhile fun y => lessD pr x y).length := by unfold insP at hj; omega
  have hp := List.takeWhile_prefix (fun y => lessD pr x y) (l := s.reverse)
  obtain ⟨t, ht⟩ := hp
  have h1 : (s.reverse.takeWhile fun y => lessD pr x y)[s.length - 1 - j]? = some y := by
    rw [← ht, List.getElem?_append_left hlt] at hr
    exact hr
  exact List.all_eq_true.1 (List.all_takeWhile (l := s.reverse) (p := fun y => lessD pr x y)) y (List.mem_of_getElem? h1)
theorem insP_at {s : List OverD} {x y : OverD} (h0 : 0 < insP pr s x) (hy : s[insP pr s x - 1]? = some y) : lessD pr x y = false := by
  have hlen : (s.reverse.takeWhile fun y => lessD pr x y).length ≤ s.length := by
    have := (List.takeWhile_sublist (fun y => lessD pr x y) (l := s.reverse)).length_le
    simpa using this
  have hd := List.head?_dropWhile_not (fun y => lessD pr x y) s.reverse
  have h3 : s.reverse.dropWhile (fun y => lessD pr x y) = s.reverse.drop (s.reverse.takeWhile fun y => lessD pr x y).length := by
    have h4 := List.takeWhile_append_dropWhile (p := fun y => lessD pr x y) (l := s.reverse)
    have h5 : (s.reverse.takeWhile (fun y => lessD pr x y) ++ s.reverse.dropWhile (fun y => lessD pr x y)).drop (s.reverse.takeWhile (fun y => lessD pr x y)).length = s.reverse.dropWhile (fun y => lessD pr x y) := List.drop_left' rfl
    rw [h4] at h5
    exact h5.symm
  have hi : s.reverse[(s.reverse.takeWhile fun y => lessD pr x y).length]? = some y := by
    unfold insP at h0 hy
    rw [List.getElem?_reverse (by omega), show s.length - 1 - (s.reverse.takeWhile fun y => lessD pr x y).length = s.length - (s.reverse.takeWhile fun y => lessD pr x y).length - 1 by omega]
    exact hy
  rw [h3, List.head?_drop, hi] at hd
  simpa using hd
/-- The position is found from the back. -/
theorem insP_uniq {s : List OverD} {x : OverD} {q : Nat} (hq : q ≤ s.length) (h1 : ∀ j y, q ≤ j → s[j]? = some y → lessD pr x y = true) (h2 : ∀ y, 0 < q → s[q - 1]? = some y → lessD pr x y = false) : insP pr s x = q := by
  have hle := insP_le (pr := pr) s x
  rcases Nat.lt_trichotomy (insP pr s x) q with h | h | h
  · obtain ⟨y, hy⟩ : ∃ y, s[q - 1]? = some y := ⟨_, List.getElem?_eq_getElem (by omega)⟩
    have := insP_ge (pr := pr) (x := x) (j := q - 1) (by omega) hy
    rw [h2 y (by omega) hy] at this; cases this
  · exact h
  · obtain ⟨y, hy⟩ : ∃ y, s[insP pr s x - 1]? = some y := ⟨_, List.getElem?_eq_getElem (by omega)⟩
    have := insP_at (pr := pr) (x := x) (by omega) hy
    rw [h1 _ y (by omega) hy] at this; cases this
theorem insS_pw {s : List OverD} {x : OverD} (hs : s.Pairwise (fun a b => cfD pr a b < 0)) (hn : ∀ y ∈ s, y.id ≠ x.id) : (insS pr s x).Pairwise (fun a b => cfD pr a b < 0) := by
  unfold insS
  have hle := insP_le (pr := pr) s x
  have hx : ∀ y ∈ s.drop (insP pr s x), cfD pr x y < 0 := fun y hy => by
    obtain ⟨j, hj⟩ := List.mem_iff_getElem?.1 hy
    rw [List.getElem?_drop] at hj
    simpa [lessD] using insP_ge (pr := pr) (x := x) (by omega) hj
  have hy : ∀ y ∈ s.take (insP pr s x), cfD pr y x < 0 := fun y hy => by
    obtain ⟨j, hj⟩ := List.mem_iff_getElem?.1 hy
    rw [List.getElem?_take] at hj
    split at hj
    · rename_i hlt
      obtain ⟨z, hz⟩ : ∃ z, s[insP pr s x - 1]? = some z := ⟨_, List.getElem?_eq_getElem (by omega)⟩
      have h1 := insP_at (pr := pr) (x := x) (by omega) hz
      have hzx : cfD pr z x < 0 := by
        rcases cfD_total (pr := pr) (hn z (List.mem_of_getElem? hz)) with h | h
        · exact h
        · simp [lessD] at h1; omega
      rcases Nat.lt_or_ge j (insP pr s x - 1) with h2 | h2
      · obtain ⟨hj1, he1⟩ := List.getElem?_eq_some_iff.1 hj
        obtain ⟨hz1, he2⟩ := List.getElem?_eq_some_iff.1 hz
        have := List.pairwise_iff_getElem.1 hs j (insP pr s x - 1) hj1 hz1 h2
        rw [he1, he2] at this
        exact cfD_trans this hzx
      · have : j = insP pr s x - 1 := by omega
        subst this
        rw [hz] at hj; cases hj; exact hzx
    · cases hj
  refine List.pairwise_append.2 ⟨hs.sublist (List.take_sublist _ _), List.pairwise_cons.2 ⟨hx, hs.sublist (List.drop_sublist _ _)⟩, fun a ha c hc => ?_⟩
  rcases List.mem_cons.1 hc with rfl | hc
  · exact hy a ha
  · exact cfD_trans (hy a ha) (hx c hc)
theorem insS_perm (s : List OverD) (x : OverD) : (insS pr s x).Perm (s ++ [x]) := by
  unfold insS
  have h1 : (s.take (insP pr s x) ++ x :: s.drop (insP pr s x)).Perm (x :: (s.take (insP pr s x) ++ s.drop (insP pr s x))) := List.perm_middle
  rw [List.take_append_drop] at h1
  exact h1.trans (List.perm_append_singleton x s).symm
/-- The first j overlays, sorted. -/
def sortI (pr : Int) (l : List OverD) : List OverD := l.foldl (insS pr) []
theorem sortI_step {l : List OverD} {j : Nat} {x : OverD} (hx : l[j]? = some x) : sortI pr (l.take (j + 1)) = insS pr (sortI pr (l.take j)) x := by
  unfold sortI
  rw [List.take_add_one, hx, Option.toList_some, List.foldl_append]; rfl
theorem sortI_perm : ∀ (l s : List OverD), (l.foldl (insS pr) s).Perm (s ++ l)
  | [], s => by simp
  | x :: l, s => by
    rw [List.foldl_cons]
    refine (sortI_perm l _).trans ?_
    refine ((insS_perm s x).append_right l).trans ?_
    simp
theorem sortI_pw : ∀ (l s : List OverD), s.Pairwise (fun a b => cfD pr a b < 0) → ((s ++ l).map OverD.id).Nodup → (l.foldl (insS pr) s).Pairwise (fun a b => cfD pr a b < 0)
  | [], s, h, _ => h
  | x :: l, s, h, hn => by
    rw [List.foldl_cons]
    refine sortI_pw l _ (insS_pw h fun y hy e => ?_) ?_
    · rw [List.map_append, List.map_cons] at hn
      exact (List.nodup_append.1 hn).2.2 y.id (List.mem_map.2 ⟨y, hy, rfl⟩) x.id (by simp) e
    · have hp : (insS pr s x ++ l).Perm (s ++ x :: l) := by
        have := (insS_perm (pr := pr) s x).append_right l
        simpa using this
      exact (hp.map OverD.id).nodup_iff.2 hn
theorem sortI_eq {l : List OverD} (hn : (l.map OverD.id).Nodup) : sortI pr l = sortD pr l := by
  refine (sortD_eq hn ?_ ?_).symm
  · have h := sortI_perm (pr := pr) l []
    rw [List.nil_append] at h
    exact h
  · exact sortI_pw l [] List.Pairwise.nil (by rw [List.nil_append]; exact hn)
theorem sortI_len (l : List OverD) : (sortI pr l).length = l.length := by
  have := (sortI_perm (pr := pr) l []).length_eq
  simpa [sortI] using this
end
end Go.Proofs.YthjkdeocdhdkaaaGreat
/- Overlays, the reference in memory: New, place, right, find, Ends, value, Get. -/
namespace Go.Proofs.YthjkdeocdhdkaaaGreat
open Go.RowKit
set_option linter.unusedVariables false
set_option linter.unusedSimpArgs false
/-- The reference's set at block p; its list lies in v's block. -/
structure RefAt (w : World) (p : Nat) (pr ev : Int) (v : Value) (M : List OverE) (nx : Int) : Prop where
  blk : w.heap[p]? = some (.cells #[v, .int .i64 nx, .int .i64 pr, .int .i64 ev] 43 (0, 0))
  own : ROwn encO 69 6 0 w v M
  ps : ∀ y ∈ M, RSl encP w y.A y.ps
  pb : ∀ y ∈ M, 0 < y.ps.length → ∀ g o, y.A = some ⟨g, o, none⟩ → g ≠ p ∧ v.ownBlock ≠ some g
  vb : v.ownBlock ≠ some p
/-- The blocks that the reference's set lies in. -/
def footR (p : Nat) (v : Value) (M : List OverE) (k : Nat) : Prop := k = p ∨ v.ownBlock = some k ∨ ∃ y ∈ M, 0 < y.ps.length ∧ ∃ o, y.A = some ⟨k, o, none⟩
section
variable {w w' W : World} {x y : OverE} {D : List OverD} {L L' M M' : List OverE} {p : Nat} {pr ev nx : Int} {v v' : Value} {A : Option Addr} {S T : Nat → Prop}
theorem RefAt.lt (h : RefAt w p pr ev v M nx) {k : Nat} (hk : footR p v M k) : k < w.heap.size := by
  rcases hk with rfl | h1 | ⟨y, hy, h1, o, h2⟩
  · exact (Array.getElem?_eq_some_iff.1 h.blk).1
  · exact h.own.lt h1
  · exact (h.ps y hy).lt h1 h2
theorem RefAt.plt (h : RefAt w p pr ev v M nx) : p < w.heap.size := h.lt (.inl rfl)
theorem RSl.kept' {α : Type} {enc : α → List Value} {xs : List α} (h : RSl enc w A xs) (hk : 0 < xs.length → ∀ g o, A = some ⟨g, o, none⟩ → w'.heap[g]? = w.heap[g]?) (hs : w.heap.size ≤ w'.heap.size) : RSl enc w' A xs := fun hp => by
  obtain ⟨g, o, e, hg, hc⟩ := h hp
  exact ⟨g, o, e, Nat.lt_of_lt_of_le hg hs, fun j u hu => (World.cell?_of_block (w := w) (a := ⟨g, o + j, none⟩) (hk hp g o e)).trans (hc j u hu)⟩
theorem RefAt.kept (h : RefAt w p pr ev v M nx) (hk : ∀ k, footR p v M k → w'.heap[k]? = w.heap[k]?) (hs : w.heap.size ≤ w'.heap.size) : RefAt w' p pr ev v M nx :=
  ⟨(hk p (.inl rfl)).trans h.blk, h.own.kept fun g hg => hk g (.inr (.inl hg)), fun y hy => (h.ps y hy).kept' (fun hp g o e => hk g (.inr (.inr ⟨y, hy, hp, o, e⟩))) hs, h.pb, h.vb⟩
theorem RefAt.up (h : RefAt w p pr ev v M nx) (hb : Below w.heap.size w w') : RefAt w' p pr ev v M nx := h.kept (fun k hk => hb.block k (h.lt hk)) hb.size
theorem RefAt.cell (h : RefAt w p pr ev v M nx) (j : Nat) (u : Value) (hu : [v, Value.int .i64 nx, .int .i64 pr, .int .i64 ev][j]? = some u) : w.cell? ⟨p, j, none⟩ = some u := by
  simp only [World.cell?, h.blk]
  simpa using hu
theorem RefAt.fz (h : RefAt w p pr ev v M nx) (j : Nat) : w.frozen? ⟨p, j, none⟩ = false := by
  simp only [World.frozen?, h.blk]; rfl
/-- The reference at block p holds D; what it lies in is in S. -/
def RSt (w : World) (p : Nat) (pr ev : Int) (D : List OverD) (nx : Int) (S : Nat → Prop) : Prop := ∃ v M, RefAt w p pr ev v M nx ∧ M.map OverE.dat = D ∧ ∀ k, footR p v M k → S k
theorem RSt.up (h : RSt w p pr ev D nx S) (hb : Below w.heap.size w w') : RSt w' p pr ev D nx S := by
  obtain ⟨v, M, h1, h2, h3⟩ := h; exact ⟨v, M, h1.up hb, h2, h3⟩
theorem RSt.only (h : RSt w p pr ev D nx S) (ho : Only T w w') (hs : ∀ k, S k → k < w.heap.size → ¬ T k) : RSt w' p pr ev D nx S := by
  obtain ⟨v, M, h1, h2, h3⟩ := h
  exact ⟨v, M, h1.kept (fun k hk => ho.block k (h1.lt hk) (hs k (h3 k hk) (h1.lt hk))) ho.size, h2, h3⟩
theorem RSt.mono (h : RSt w p pr ev D nx S) (hs : ∀ k, S k → T k) : RSt w p pr ev D nx T := by
  obtain ⟨v, M, h1, h2, h3⟩ := h; exact ⟨v, M, h1, h2, fun k hk => hs k (h3 k hk)⟩
theorem RSt.tight (h : RSt w p pr ev D nx S) : RSt w p pr ev D nx (fun k => S k ∧ k < w.heap.size) := by
  obtain ⟨v, M, h1, h2, h3⟩ := h; exact ⟨v, M, h1, h2, fun k hk => ⟨h3 k hk, h1.lt hk⟩⟩
def RPost (w : World) (p : Nat) (pr ev : Int) (S : Nat → Prop) (ret : Value) (D : List OverD) (nx : Int) (e : Ending) (w' : World) : Prop :=
  e = .returned ret ∧ ∃ S', RSt w' p pr ev D nx S' ∧ Only S w w' ∧ ∀ k, S' k → S k ∨ w.heap.size ≤ k
theorem RPost.same {ret : Value} (h : RSt w p pr ev D nx S) (hb : Below w.heap.size w w') : RPost w p pr ev S ret D nx (.returned ret) w' := ⟨rfl, S, h.up hb, Only.of_below hb, fun k hk => .inl hk⟩
def RNew (w : World) (pr ev : Int) (e : Ending) (w' : World) : Prop := ∃ p, e = .returned (.pointer (some ⟨p, 0, none⟩)) ∧ RSt w' p pr ev [] 0 (fun k => w.heap.size ≤ k) ∧ Below w.heap.size w w'
set_option maxHeartbeats 400000 in
theorem r_new (pr ev : Int) (w : World) : Calls Tryz.prog 6 #[.int .i64 pr, .int .i64 ev] w (RNew w pr ev) := by
  go_enter Tryz.func6, Tryz.ntmps6
  go_wp2
  go_ret
  refine ⟨_, rfl, ⟨_, [], ⟨(MapKept.heap_alloc w _).1, ROwn.nil _ _, by simp, by simp, by simp [Value.ownBlock]⟩, rfl, fun k hk => ?_⟩, below1 w _⟩
  rcases hk with rfl | h1 | ⟨y, hy, _⟩
  · exact Nat.le_refl _
  · cases h1
  · simp at hy
set_option maxHeartbeats 400000 in
theorem rplace_any (a : Int) (w : World) : Calls Tryz.prog 68 #[.int .i64 a] w fun e w' => e = .returned (.bool (placeI a)) ∧ w = w' := by
  go_enter Tryz.func68, Tryz.ntmps68
  go_wp2
  all_goals (go_ret; exact ⟨ret_bool (Bool.eq_iff_iff.2 (by simp [placeI] <;> omega)), rfl⟩)
set_option maxHeartbeats 400000 in
theorem rright_any (f t : Int) (w : World) : Calls Tryz.prog 67 #[.int .i64 f, .int .i64 t] w fun e w' => e = .returned (.bool (rightI f t)) ∧ w = w' := by
  have H1 := Lib.hid (rplace_any f w)
  have H2 := Lib.hid (rplace_any t w)
  unfold rightI
  cases h1 : placeI f with
  | false =>
    rw [h1] at H1
    clear h1
    go_enter Tryz.func67, Tryz.ntmps67
    go_wp2_with fail
    refine H1.out.mono ?_
    rintro e w' ⟨rfl, rfl⟩
    go_wp2_with fail
    go_ret
    exact ⟨rfl, rfl⟩
  | true =>
    rw [h1] at H1
    clear h1
    cases h2 : placeI t with
    | false =>
      rw [h2] at H2
      clear h2
      go_enter Tryz.func67, Tryz.ntmps67
      go_wp2_with fail
      refine H1.out.mono ?_
      rintro e w' ⟨rfl, rfl⟩
      go_wp2_with fail
      refine H2.out.mono ?_
      rintro e w' ⟨rfl, rfl⟩
      go_wp2_with fail
      go_ret
      exact ⟨rfl, rfl⟩
    | true =>
      rw [h2] at H2
      clear h2
      go_enter Tryz.func67, Tryz.ntmps67
      go_wp2_with fail
      refine H1.out.mono ?_
      rintro e w' ⟨rfl, rfl⟩
      go_wp2_with fail
      refine H2.out.mono ?_
      rintro e w' ⟨rfl, rfl⟩
      go_wp2_with fail
      go_ret
      exact ⟨rfl, rfl⟩
/-- The reference's index of a number, or -1. -/
def idxR (D : List OverD) (id : Int) : Int := match D.findIdx? (fun x => x.id == id) with | some k => k | none => -1
theorem ids_some {id : Int} {k : Nat} {x : OverD} (hx : D[k]? = some x) (hp : x.id = id) (hno : ∀ j, j < k → ∀ y, D[j]? = some y → y.id ≠ id) : D.findIdx? (fun x => x.id == id) = some k := by
  obtain ⟨hlt, he⟩ := List.getElem?_eq_some_iff.1 hx
  rw [List.findIdx?_eq_some_iff_getElem]
  exact ⟨hlt, by rw [he]; simpa using hp, fun j hj => by have := hno j hj _ (List.getElem?_eq_getElem (by omega)); simpa using this⟩
theorem ids_none {id : Int} (hno : ∀ j, j < D.length → ∀ y, D[j]? = some y → y.id ≠ id) : D.findIdx? (fun x => x.id == id) = none := by
  rw [List.findIdx?_eq_none_iff]
  intro y hy
  obtain ⟨j, hj, he⟩ := List.getElem_of_mem hy
  have := hno j hj y (by rw [List.getElem?_eq_getElem hj, he])
  simpa using this
set_option maxRecDepth 100000 in
set_option maxHeartbeats 1000000 in
theorem r_find (h : RefAt w p pr ev v M nx) (id : Int) (hl : M.length ≤ 1000000) : Calls Tryz.prog 53 #[.pointer (some ⟨p, 0, none⟩), .int .i64 id] w fun e w' => e = .returned (.int .i64 (idxR (M.map OverE.dat) id)) ∧ w = w' := by
  obtain ⟨A, c, rfl, hc1, hc2, hr⟩ := h.own.shape eltO
  have c0 := h.cell 0 _ rfl
  have HR := Lib.hid hr
  clear hr h
  go_enter Tryz.func53, Tryz.ntmps53
  go_wp2_with fail
  go_loopw [5] (fun vi wz => ∃ k : Nat, k ≤ M.length ∧ vi = .int .i64 k ∧ (∀ j, j < k → ∀ y, (M.map OverE.dat)[j]? = some y → y.id ≠ id) ∧ w = wz) (fun vi _ => M.length - (intOf vi).toNat)
  case atStart => exact ⟨0, by omega, rfl, fun j hj => by omega, rfl⟩
  case round =>
    obtain ⟨k, hk, rfl, hno, rfl⟩ := hrel
    have HN := Lib.hid hno
    clear hno
    by_cases hlt : k < M.length
    · obtain ⟨x, hx⟩ : ∃ x, M[k]? = some x := ⟨_, List.getElem?_eq_getElem hlt⟩
      have hdx : (M.map OverE.dat)[k]? = some x.dat := by rw [List.getElem?_map, hx]; rfl
      obtain ⟨g, o, hAe, hg, hc⟩ := HR.out.at_ eltO hx
      have k0 := hc 0 _ rfl
      simp only [← Nat.add_assoc, Nat.add_zero] at k0
      have hlt' : (k : Int) < M.length := by omega
      have HX := Lib.hid hdx
      obtain ⟨xid, f, t, fr, re, xA, xc, xps, xg⟩ := x
      dsimp only at k0
      clear hx hc hdx
      subst hAe
      by_cases he : xid = id
      · have hb : (xid == id) = true := by simpa using he
        have HE := Lib.hid (ids_some HX.out he HN.out)
        clear he
        go_wp2_with fail
        go_ret
        exact ⟨ret_int (by unfold idxR; rw [HE.out]), rfl⟩
      · have hb : (xid == id) = false := by simpa using he
        have HE := Lib.hid he
        clear he
        go_wp2_with fail
        go_roundw
        case rel =>
          refine ⟨k + 1, by omega, by go_num, fun j hj y hy => ?_, by first | trivial | rfl⟩
          rcases Nat.lt_or_ge j k with h1 | h1
          · exact HN.out j h1 y hy
          · obtain rfl : j = k := by omega
            rw [HX.out] at hy; cases hy; exact HE.out
        case measure => simp [intOf]; omega
    · obtain rfl : k = M.length := by omega
      have HE := Lib.hid (ids_none (D := M.map OverE.dat) (id := id) (fun j hj => HN.out j (by simpa using hj)))
      clear hlt
      go_wp2_with fail
      go_ret
      exact ⟨ret_int (by unfold idxR; rw [HE.out]), rfl⟩
theorem idxR_some {id : Int} {k : Nat} (hk : (M.map OverE.dat).findIdx? (fun x => x.id == id) = some k) : idxR (M.map OverE.dat) id = k ∧ ∃ x, M[k]? = some x ∧ endsD (M.map OverE.dat) id = some x.dat := by
  refine ⟨by unfold idxR; rw [hk], ?_⟩
  obtain ⟨h1, h2, h3⟩ := List.findIdx?_eq_some_iff_getElem.1 hk
  have hkl : k < M.length := by simpa using h1
  refine ⟨M[k], List.getElem?_eq_getElem hkl, ?_⟩
  unfold endsD
  rw [List.find?_eq_some_iff_getElem]
  refine ⟨by simpa using h2, k, h1, by simp, fun j hj => by simpa using h3 j hj⟩
theorem idxR_none {id : Int} (hk : (M.map OverE.dat).findIdx? (fun x => x.id == id) = none) : idxR (M.map OverE.dat) id = -1 ∧ endsD (M.map OverE.dat) id = none := by
  refine ⟨by unfold idxR; rw [hk], ?_⟩
  unfold endsD
  rw [List.find?_eq_none]
  intro x hx
  have := List.findIdx?_eq_none_iff.1 hk x hx
  simpa using this
set_option maxRecDepth 100000 in
set_option maxHeartbeats 1000000 in
theorem r_ends (h : RefAt w p pr ev v M nx) (id : Int) (hl : M.length ≤ 1000000) : Calls Tryz.prog 23 #[.pointer (some ⟨p, 0, none⟩), .int .i64 id] w fun e w' => e = .returned (endsV (endsD (M.map OverE.dat) id)) ∧ Below w.heap.size w w' := by
  have HF := Lib.hid (r_find h id hl)
  obtain ⟨A, c, rfl, hc1, hc2, hr⟩ := h.own.shape eltO
  have c0 := h.cell 0 _ rfl
  cases hk : (M.map OverE.dat).findIdx? (fun x => x.id == id) with
  | none =>
    obtain ⟨h1, h2⟩ := idxR_none hk
    rw [h1] at HF
    rw [h2]
    clear h hr hk h1 h2
    go_enter Tryz.func23, Tryz.ntmps23
    go_wp2_with fail
    refine HF.out.mono ?_
    rintro e w1 ⟨rfl, rfl⟩
    go_wp2_with fail
    go_ret3
    exact ⟨rfl, Below.refl _ _⟩
  | some k =>
    obtain ⟨h1, x, hx, h2⟩ := idxR_some hk
    have hkl := (List.getElem?_eq_some_iff.1 hx).1
    obtain ⟨g, o, hAe, hg, hc⟩ := hr.at_ eltO hx
    have k1 := hc 1 _ rfl
    have k2 := hc 2 _ rfl
    simp only [← Nat.add_assoc, Nat.add_zero] at k1 k2
    have hk0 : (0 : Int) ≤ k := by omega
    have hk1 : (k : Int) < M.length := by omega
    have dk : decide ((k : Int) < 0) = false := decide_eq_false (by omega)
    rw [h1] at HF
    rw [h2]
    obtain ⟨xid, f, t, fr, re, xA, xc, xps, xg⟩ := x
    dsimp only at k1 k2
    clear h hr hk h1 h2 hx hc
    subst hAe
    go_enter Tryz.func23, Tryz.ntmps23
    go_wp2_with fail
    refine HF.out.mono ?_
    rintro e w1 ⟨rfl, rfl⟩
    go_wp2_with fail
    go_quiet (fail)
    go_wp2_with fail
    go_ret3
    exact ⟨rfl, have b := Below.refl w.heap.size w; ⟨b.os, b.tape, b.output, b.size, b.block⟩⟩
end
end Go.Proofs.YthjkdeocdhdkaaaGreat
/- Overlays, the reference: Add, Drop, Move. -/
namespace Go.Proofs.YthjkdeocdhdkaaaGreat
open Go.RowKit
set_option linter.unusedVariables false
set_option linter.unusedSimpArgs false
section
variable {w w' W : World} {x y : OverE} {D : List OverD} {L L' M M' : List OverE} {p : Nat} {pr ev nx : Int} {v v' : Value} {A : Option Addr} {S T : Nat → Prop}
theorem RefAt.setL (hb : w'.heap[p]? = some (.cells #[v, .int .i64 nx, .int .i64 pr, .int .i64 ev] 43 (0, 0))) (hown : ROwn encO 69 6 0 w' v' M') (hps : ∀ y ∈ M', RSl encP w' y.A y.ps)
    (hpb : ∀ y ∈ M', 0 < y.ps.length → ∀ g o, y.A = some ⟨g, o, none⟩ → g ≠ p ∧ v'.ownBlock ≠ some g) (hvb : v'.ownBlock ≠ some p) : RefAt (w'.setCell ⟨p, 0, none⟩ v') p pr ev v' M' nx := by
  have h1 := heap_setCell_same w' p 0 _ _ v' hb
  have hk : ∀ j, j ≠ p → (w'.setCell ⟨p, 0, none⟩ v').heap[j]? = w'.heap[j]? := fun j hj => Below.heap_setCell _ _ _ _ hj
  exact ⟨h1, hown.kept fun g hg => hk g (fun e => hvb (by rw [← e]; exact hg)), fun y hy => (hps y hy).kept' (fun hp g o e => hk g (hpb y hy hp g o e).1) (by simp [World.setCell]), hpb, hvb⟩
theorem RefAt.setN (h : RefAt w p pr ev v M nx) (n : Int) : RefAt (w.setCell ⟨p, 1, none⟩ (.int .i64 n)) p pr ev v M n := by
  have h1 := heap_setCell_same w p 1 _ _ (.int .i64 n) h.blk
  have hk : ∀ j, j ≠ p → (w.setCell ⟨p, 1, none⟩ (.int .i64 n)).heap[j]? = w.heap[j]? := fun j hj => Below.heap_setCell _ _ _ _ hj
  exact ⟨h1, h.own.kept fun g hg => hk g (fun e => h.vb (by rw [← e]; exact hg)), fun y hy => (h.ps y hy).kept' (fun hp g o e => hk g (h.pb y hy hp g o e).1) (by simp [World.setCell]), h.pb, h.vb⟩
/-- One cell of an element stored. -/
theorem RefAt.put {g cap : Nat} (h : RefAt w p pr ev (.slice (some ⟨g, 0, none⟩) M.length cap) M nx) {i j : Nat} {u : Value} (hi : M[i]? = some x) (hj : j < 6) (he : encO y = (encO x).set j u)
    (hy : RSl encP w y.A y.ps) (hyb : 0 < y.ps.length → ∀ q o, y.A = some ⟨q, o, none⟩ → q ≠ p ∧ g ≠ q) :
    RefAt (w.setCell ⟨g, i * 6 + j, none⟩ u) p pr ev (.slice (some ⟨g, 0, none⟩) M.length cap) (M.set i y) nx := by
  have hgp : g ≠ p := fun e => h.vb (by rw [e]; rfl)
  have hk : ∀ q, q ≠ g → (w.setCell ⟨g, i * 6 + j, none⟩ u).heap[q]? = w.heap[q]? := fun q hq => Below.heap_setCell _ _ _ _ hq
  refine ⟨(hk p (fun e => hgp e.symm)).trans h.blk, h.own.put eltO hi hj he, fun z hz => ?_, fun z hz => ?_, h.vb⟩
  · rcases List.mem_or_eq_of_mem_set hz with h1 | rfl
    · exact (h.ps z h1).kept' (fun hp q o e => hk q (fun e2 => (h.pb z h1 hp q o e).2 (by rw [e2]; rfl))) (by simp [World.setCell])
    · exact hy.kept' (fun hp q o e => hk q (fun e2 => (hyb hp q o e).2 e2.symm)) (by simp [World.setCell])
  · rcases List.mem_or_eq_of_mem_set hz with h1 | rfl
    · exact h.pb z h1
    · intro hp q o e
      exact ⟨(hyb hp q o e).1, fun e2 => (hyb hp q o e).2 (Option.some.inj e2)⟩
theorem take_drop_id : ∀ (D : List OverD) (k : Nat) (id : Int), (D.map OverD.id).Nodup → D.findIdx? (fun x => x.id == id) = some k → D.take k ++ D.drop (k + 1) = D.filter (fun x => x.id != id)
  | [], k, id, _, h => by simp at h
  | x :: D, k, id, hn, h => by
    rw [List.map_cons, List.nodup_cons] at hn
    rw [List.findIdx?_cons] at h
    by_cases hx : x.id = id
    · rw [if_pos (by simpa using hx)] at h
      cases h
      rw [List.filter_cons, if_neg (by simpa using hx)]
      simp only [List.take_zero, List.nil_append, Nat.zero_add, List.drop_succ_cons, List.drop_zero]
      exact (List.filter_eq_self.2 fun y hy => by
        have : y.id ≠ id := fun e => hn.1 (List.mem_map.2 ⟨y, hy, by rw [e, hx]⟩)
        simpa using this).symm
    · rw [if_neg (by simpa using hx)] at h
      cases hk : D.findIdx? (fun x => x.id == id) with
      | none => rw [hk] at h; cases h
      | some j =>
        rw [hk] at h
        simp only [Option.map_some, Option.some.injEq] at h
        subst h
        rw [List.filter_cons, if_pos (by simpa using hx), ← take_drop_id D j id hn.2 hk]
        rfl
theorem drop_none {id : Int} (h : D.findIdx? (fun x => x.id == id) = none) : dropD D id = D := by
  unfold dropD
  exact List.filter_eq_self.2 fun y hy => by have := List.findIdx?_eq_none_iff.1 h y hy; simpa using this
set_option maxRecDepth 100000 in
set_option maxHeartbeats 2000000 in
theorem r_add (h : RSt w p pr ev D nx S) (hw : WfD D nx) (f t : Int) (fr re : Bool) (hn : nx ≤ 1000000000) :
    Calls Tryz.prog 37 #[.pointer (some ⟨p, 0, none⟩), .int .i64 f, .int .i64 t, .bool fr, .bool re] w (RPost w p pr ev S (.tuple #[.int .i64 (addR D nx f t), .int .i64 (addE D f t)]) (addD D nx f t fr re) (addN D nx f t)) := by
  have HRI := Lib.hid (rright_any f t w)
  have hlen := hw.len
  have hn0 := hw.nx0
  cases hr : rightI f t with
  | false =>
    have he : addE D f t = 3 := by unfold addE; rw [hr]; rfl
    have e1 : addR D nx f t = 0 := by unfold addR; rw [he]; rfl
    have e2 : addD D nx f t fr re = D := by unfold addD; rw [he]; rfl
    have e3 : addN D nx f t = nx := by unfold addN; rw [he]; rfl
    rw [he, e1, e2, e3]
    rw [hr] at HRI
    have H := Lib.hid h
    clear h hw hr he e1 e2 e3
    go_enter Tryz.func37, Tryz.ntmps37
    go_wp2_with fail
    refine HRI.out.mono ?_
    rintro e w' ⟨rfl, rfl⟩
    go_wp2_with fail
    go_ret2
    exact RPost.same H.out (Below.refl _ _)
  | true =>
    rw [hr] at HRI
    obtain ⟨v, M, h1, hMD, hS⟩ := h
    obtain ⟨A, c, rfl, hc1, hc2, hrs⟩ := h1.own.shape eltO
    have hMl : M.length = D.length := by rw [← hMD, List.length_map]
    have c0 := h1.cell 0 _ rfl
    have c1 := h1.cell 1 _ rfl
    by_cases hl : D.length < 1024
    · have he : addE D f t = 0 := by unfold addE; rw [hr, if_pos rfl, if_pos hl]
      have e1 : addR D nx f t = nx := by unfold addR; rw [he]; rfl
      have e2 : addD D nx f t fr re = D ++ [newD nx f t fr re] := by unfold addD; rw [he]; rfl
      have e3 : addN D nx f t = nx + 1 := by unfold addN; rw [he]; rfl
      rw [he, e1, e2, e3]
      have hl' : (M.length : Int) < (1024 : Int) := by omega
      have hbd : Below w.heap.size w w.drew := (Below.refl _ w).drew
      obtain ⟨v', w', happ, hown', hbel', ho', hv'⟩ := append_elem eltO (h1.own.up hbd) (Nat.zero_le _) (newO nx f t fr re 0) (by omega) (by omega)
      have hoo : Only (fun g => (Value.slice A M.length c).ownBlock = some g) w w' := (Only.of_below hbd).trans ho'
      have hplt := h1.plt
      have hblk := (hoo.block p hplt h1.vb).trans h1.blk
      have hvv : ∀ k, v'.ownBlock = some k → (Value.slice A M.length c).ownBlock = some k ∨ w.heap.size ≤ k := fun k e => by
        rcases hv' with h3 | ⟨q, h3, h4⟩
        · exact .inl (h3 ▸ e)
        · rw [h3] at e; cases e; exact .inr h4
      have hset := RefAt.setL (v' := v') hblk hown' (fun y hy => by
        rcases List.mem_append.1 hy with hy | hy
        · exact (h1.ps y hy).kept' (fun hp g o e => hoo.block g ((h1.ps y hy).lt hp e) (h1.pb y hy hp g o e).2) hoo.size
        · obtain rfl : y = newO nx f t fr re 0 := by simpa using hy
          exact fun hp => by simp [newO] at hp) (fun y hy hp g o e => by
        rcases List.mem_append.1 hy with hy | hy
        · refine ⟨(h1.pb y hy hp g o e).1, fun e2 => ?_⟩
          rcases hvv g e2 with h3 | h3
          · exact (h1.pb y hy hp g o e).2 h3
          · have := (h1.ps y hy).lt hp e; omega
        · obtain rfl : y = newO nx f t fr re 0 := by simpa using hy
          simp [newO] at hp) (fun e => by
        rcases hvv p e with h3 | h3
        · exact h1.vb h3
        · omega)
      have hfin := hset.setN (nx + 1)
      have hft : ∀ k, footR p v' (M ++ [newO nx f t fr re 0]) k → S k ∨ w.heap.size ≤ k := fun k hk => by
        rcases hk with rfl | h3 | ⟨y, hy, hp, o, e⟩
        · exact .inl (hS k (.inl rfl))
        · rcases hvv k h3 with h4 | h4
          · exact .inl (hS k (.inr (.inl h4)))
          · exact .inr h4
        · rcases List.mem_append.1 hy with hy | hy
          · exact .inl (hS k (.inr (.inr ⟨y, hy, hp, o, e⟩)))
          · obtain rfl : y = newO nx f t fr re 0 := by simpa using hy
            simp [newO] at hp
      have d0 := (World.cell?_of_block (w := w) (a := ⟨p, 0, none⟩) (hoo.block p hplt h1.vb)).trans c0
      have d1 := (World.cell?_of_block (w := w) (a := ⟨p, 1, none⟩) (hoo.block p hplt h1.vb)).trans c1
      have z0 := (World.frozen?_of_block (w := w) (a := ⟨p, 0, none⟩) (hoo.block p hplt h1.vb)).trans (h1.fz 0)
      have z1 := (World.frozen?_of_block (w := w) (a := ⟨p, 1, none⟩) (hoo.block p hplt h1.vb)).trans (h1.fz 1)
      obtain ⟨A2, c2, hv2, _, _, _⟩ := hown'.shape eltO
      generalize (M ++ [newO nx f t fr re 0]).length = n2 at hv2
      have HV := Lib.hid h1.vb
      have C0 : ∀ x : OnW (fun g => (Value.slice A M.length c).ownBlock = some g) w, x.w.cell? ⟨p, 0, none⟩ = some (.slice A M.length c) := fun x => (World.cell?_of_block (w := w) (a := ⟨p, 0, none⟩) (x.on.block p hplt HV.out)).trans c0
      have C1 : ∀ x : OnW (fun g => (Value.slice A M.length c).ownBlock = some g) w, x.w.cell? ⟨p, 1, none⟩ = some (.int .i64 nx) := fun x => (World.cell?_of_block (w := w) (a := ⟨p, 1, none⟩) (x.on.block p hplt HV.out)).trans c1
      have happ' : ∀ ty, (Builtin.append_ #[39, 39] ty #[.slice A M.length c, .slice (some ⟨w.heap.size, 0, none⟩) 1 1]).run Tryz.prog (w.alloc (.cells #[.int .i64 nx, .int .i64 f, .int .i64 t, .bool fr, .bool re, .slice none 0 0] 69)).drew = .ok v' w' := fun ty => happ ty
      have HP := Lib.hid happ'
      have HF := Lib.hid hfin
      have HFT := Lib.hid hft
      have HO := Lib.hid hoo
      have HMD := Lib.hid hMD
      have HS := Lib.hid hS
      clear happ happ' hset hfin hft hoo hown' hbel' ho' hv' hvv hblk hrs h1 hbd hMD hS hr he e1 e2 e3 hw hl hMl hlen
      subst hv2
      go_enter Tryz.func37, Tryz.ntmps37
      go_wp2_with fail
      refine HRI.out.mono ?_
      rintro e w0 ⟨rfl, rfl⟩
      go_wp2_with fail
      clear c0 c1
      refine wp_region_mixO (fun g => (Value.slice A M.length c).ownBlock = some g) 16 (.one [0, 1, 2, 3, 4, 5, 6, 7, 8, 9, 10, 11, 12, 13] 14 (.one [] 15 (.done []))) (by kernel_rfl) (fun c d v a w h => by cases d <;> exact h) (by kernel_rfl) ?_
      simp only [wpMixT, pk_nil, pk_cons, pushAt_zero, pushAt_succ, List.drop_succ_cons, List.drop_zero]
      repeat (go_big_quiet_step (fail))
      refine wpQuiet_nil ?_
      clear C0 C1
      go_wp2_with fail
      refine thenQ_normal ⟨⟨⟨_, (Only.refl _ w).drew.alloc _⟩, rfl⟩, ?_⟩
      refine wpQuiet_nil ?_
      refine wpList_app_run rfl _ _ _ rfl rfl rfl HP.out ?_
      go_wp2_with fail
      refine thenQ_normal ⟨⟨⟨_, HO.out⟩, rfl⟩, ?_⟩
      refine wpQuiet_nil ?_
      go_wp2_with fail
      go_ret2
      exact ⟨ret_two (by omega), _, ⟨_, _, HF.out, by rw [List.map_append, HMD.out]; rfl, fun k hk => hk⟩, ((HO.out.mono fun k hk => HS.out k (.inr (.inl hk))).setCell (p := ⟨p, 0, none⟩) (HS.out p (.inl rfl)) _).setCell (p := ⟨p, 1, none⟩) (HS.out p (.inl rfl)) _, HFT.out⟩
    · have he : addE D f t = 7 := by unfold addE; rw [hr, if_pos rfl, if_neg hl]
      have e1 : addR D nx f t = 0 := by unfold addR; rw [he]; rfl
      have e2 : addD D nx f t fr re = D := by unfold addD; rw [he]; rfl
      have e3 : addN D nx f t = nx := by unfold addN; rw [he]; rfl
      rw [he, e1, e2, e3]
      have hl' : (1024 : Int) ≤ (M.length : Int) := by omega
      have H := Lib.hid (show RSt w p pr ev D nx S from ⟨_, M, h1, hMD, hS⟩)
      clear h1 hw hr he e1 e2 e3 hrs hMD hS hl hMl hlen
      go_enter Tryz.func37, Tryz.ntmps37
      go_wp2_with fail
      refine HRI.out.mono ?_
      rintro e w' ⟨rfl, rfl⟩
      go_wp2_with fail
      go_ret2
      exact RPost.same H.out (Below.refl _ _)
set_option maxRecDepth 100000 in
set_option maxHeartbeats 4000000 in
theorem r_drop (h : RSt w p pr ev D nx S) (hw : WfD D nx) (id : Int) :
    Calls Tryz.prog 38 #[.pointer (some ⟨p, 0, none⟩), .int .i64 id] w (RPost w p pr ev S (.int .i64 (dropE D id)) (dropD D id) nx) := by
  obtain ⟨v, M, h1, rfl, hS⟩ := h
  have hlen := hw.len
  rw [List.length_map] at hlen
  have HF := Lib.hid (r_find h1 id (by omega))
  cases hk : (M.map OverE.dat).findIdx? (fun x => x.id == id) with
  | none =>
    obtain ⟨g1, g2⟩ := idxR_none hk
    have he : dropE (M.map OverE.dat) id = 8 := by unfold dropE; rw [g2]; rfl
    rw [he, drop_none hk]
    rw [g1] at HF
    have H := Lib.hid (show RSt w p pr ev (M.map OverE.dat) nx S from ⟨v, M, h1, rfl, hS⟩)
    clear h1 hw hk g1 g2 he hS
    go_enter Tryz.func38, Tryz.ntmps38
    go_wp2_with fail
    refine HF.out.mono ?_
    rintro e w1 ⟨rfl, rfl⟩
    go_wp2_with fail
    go_ret
    exact RPost.same H.out (Below.refl _ _)
  | some i =>
    obtain ⟨g1, x, hx, g2⟩ := idxR_some hk
    have hil := (List.getElem?_eq_some_iff.1 hx).1
    have he : dropE (M.map OverE.dat) id = 0 := by unfold dropE; rw [g2]; rfl
    have hdd : (M.take i ++ M.drop (i + 1)).map OverE.dat = dropD (M.map OverE.dat) id := by
      unfold dropD
      rw [← take_drop_id _ i id hw.nodup hk, List.map_append, List.map_take, List.map_drop]
    rw [he]
    rw [g1] at HF
    obtain ⟨AL, cl, rfl, hcl, hcm, hLs⟩ := h1.own.shape eltO
    unfold maxLen at hcm
    have c0 := h1.cell 0 _ rfl
    have f0 := h1.fz 0
    have hplt := h1.plt
    have hmem : ∀ y ∈ M.take i ++ M.drop (i + 1), y ∈ M := fun y hy => by
      rcases List.mem_append.1 hy with h5 | h5
      · exact List.mem_of_mem_take h5
      · exact List.mem_of_mem_drop h5
    have HSF := Lib.hid (fun (v' : Value) (w9 : World) (hb9 : Below w.heap.size w w9) (hown : ROwn encO 69 6 w.heap.size w9 v' (M.take i ++ M.drop (i + 1))) =>
      RefAt.setL (v' := v') (pr := pr) (ev := ev) (nx := nx) ((hb9.block p hplt).trans h1.blk) (hown.low (Nat.zero_le _)) (fun y hy => (h1.ps y (hmem y hy)).up hb9)
        (fun y hy hp g o e => ⟨(h1.pb y (hmem y hy) hp g o e).1, fun e2 => by have h5 := hown.base e2; have h6 := (h1.ps y (hmem y hy)).lt hp e; omega⟩) (fun e => by have := hown.base e; omega))
    obtain ⟨a7, wa7, a8, wa8, ra7, ra8, oa8, ba7, ba8⟩ := delA eltO (by omega) (i := i) (j := i + 1) hLs hcl (by omega) (by omega) (by omega)
    have HDD := Lib.hid hdd
    have HSS := Lib.hid hS
    have di : decide ((i : Int) < 0) = false := decide_eq_false (by omega)
    have C0 : ∀ x : UpW w.heap.size w, x.w.cell? ⟨p, 0, none⟩ = some (.slice AL M.length cl) := fun x => (x.up.cell (p := ⟨p, 0, none⟩) hplt).trans c0
    clear h1 hw hk g1 g2 he hdd hS hx hLs hmem
    go_enter Tryz.func38, Tryz.ntmps38
    go_wp2_with fail
    refine HF.out.mono ?_
    rintro e w1 ⟨rfl, rfl⟩
    go_wp2_with fail
    have hw2 : IntKind.i64.wrap ((i : Int) + 1) = (i : Int) + 1 := IntWalk.i64_in _ (by omega)
    have hq0 : (i : Int) ≤ cl := by omega
    have hq1 : (i : Int) + 1 ≤ cl := by omega
    have hq2 : (i : Int) + 1 ≤ M.length := by omega
    have hq3 : 0 ≤ (i : Int) + 1 := by omega
    have hq4 : ((i : Int) + 1).toNat = i + 1 := by omega
    unfold AppRun at ra7 ra8
    unfold tailA at ra8
    by_cases hcp : cl = i + 1
    · subst hcp
      rw [if_pos rfl, Nat.sub_self, show M.length - (i + 1) = 0 by omega] at ra8
      have RA7 := Lib.hid ra7
      have RA8 := Lib.hid ra8
      clear ra7 ra8
      refine wp_region_mixT w.heap.size 17 (.one [0, 2, 3, 4, 5, 6, 7, 9, 10, 11, 12, 13, 14, 15] 1 (.one [] 8 (.one [] 16 (.done [])))) (by kernel_rfl) (fun c d v a w h => by cases d <;> exact h) (by kernel_rfl) ?_
      simp only [wpMixT, pk_nil, pk_cons, pushAt_zero, pushAt_succ, List.drop_succ_cons, List.drop_zero]
      repeat (go_big_quiet_step (fail))
      refine wpQuiet_nil ?_
      clear C0 hw2 hq0 hq1 hq2 hq3 hq4
      go_wp2_with fail
      refine thenQ_normal ⟨⟨⟨_, (below1 w _).drew⟩, rfl⟩, ?_⟩
      refine wpQuiet_nil ?_
      go_wp2_with (at_builtin; refine wpList_app_run rfl _ _ _ rfl rfl rfl RA7.out ?_)
      refine thenQ_normal ⟨⟨⟨_, ba7⟩, rfl⟩, ?_⟩
      refine wpQuiet_nil ?_
      go_wp2_with (at_builtin; refine wpList_app_run rfl _ _ _ rfl rfl rfl RA8.out ?_)
      refine thenQ_normal ⟨⟨⟨_, ba8⟩, rfl⟩, ?_⟩
      refine wpQuiet_nil ?_
      obtain ⟨A9, cap9, hv9, _, _, _⟩ := oa8.shape eltO
      have c9 := (ba8.cell (p := ⟨p, 0, none⟩) hplt).trans c0
      have f9 := (ba8.frozen (p := ⟨p, 0, none⟩) hplt).trans f0
      have HS := Lib.hid (HSF.out _ _ ba8 oa8)
      have HO9 := Lib.hid oa8
      generalize (List.take _ M ++ List.drop _ M).length = L9 at hv9
      clear oa8 c0 f0
      subst hv9
      go_wp2_with fail
      go_ret
      exact ⟨rfl, _, ⟨_, _, HS.out, HDD.out, fun k hk => hk⟩, ((Only.of_below ba8).setCell (p := ⟨p, 0, none⟩) (HSS.out p (.inl rfl)) _), fun k hk => by
        rcases hk with rfl | h3 | ⟨y, hy, hp, o, e⟩
        · exact .inl (HSS.out k (.inl rfl))
        · exact .inr (HO9.out.base h3)
        · refine .inl (HSS.out k (.inr (.inr ⟨y, ?_, hp, o, e⟩)))
          rcases List.mem_append.1 hy with h5 | h5
          · exact List.mem_of_mem_take h5
          · exact List.mem_of_mem_drop h5⟩
    · rw [if_neg hcp] at ra8
      have RA7 := Lib.hid ra7
      have RA8 := Lib.hid ra8
      clear ra7 ra8
      refine wp_region_mixT w.heap.size 17 (.one [0, 2, 3, 4, 5, 6, 7, 9, 10, 11, 12, 13, 14, 15] 1 (.one [] 8 (.one [] 16 (.done [])))) (by kernel_rfl) (fun c d v a w h => by cases d <;> exact h) (by kernel_rfl) ?_
      simp only [wpMixT, pk_nil, pk_cons, pushAt_zero, pushAt_succ, List.drop_succ_cons, List.drop_zero]
      repeat (go_big_quiet_step (fail))
      refine wpQuiet_nil ?_
      clear C0 hw2 hq0 hq1 hq2 hq3 hq4
      go_wp2_with fail
      refine thenQ_normal ⟨⟨⟨_, (below1 w _).drew⟩, rfl⟩, ?_⟩
      refine wpQuiet_nil ?_
      go_wp2_with (at_builtin; refine wpList_app_run rfl _ _ _ rfl rfl rfl RA7.out ?_)
      refine thenQ_normal ⟨⟨⟨_, ba7⟩, rfl⟩, ?_⟩
      refine wpQuiet_nil ?_
      go_wp2_with (at_builtin; refine wpList_app_run rfl _ _ _ rfl rfl rfl RA8.out ?_)
      refine thenQ_normal ⟨⟨⟨_, ba8⟩, rfl⟩, ?_⟩
      refine wpQuiet_nil ?_
      obtain ⟨A9, cap9, hv9, _, _, _⟩ := oa8.shape eltO
      have c9 := (ba8.cell (p := ⟨p, 0, none⟩) hplt).trans c0
      have f9 := (ba8.frozen (p := ⟨p, 0, none⟩) hplt).trans f0
      have HS := Lib.hid (HSF.out _ _ ba8 oa8)
      have HO9 := Lib.hid oa8
      generalize (List.take _ M ++ List.drop _ M).length = L9 at hv9
      clear oa8 c0 f0
      subst hv9
      go_wp2_with fail
      go_ret
      exact ⟨rfl, _, ⟨_, _, HS.out, HDD.out, fun k hk => hk⟩, ((Only.of_below ba8).setCell (p := ⟨p, 0, none⟩) (HSS.out p (.inl rfl)) _), fun k hk => by
        rcases hk with rfl | h3 | ⟨y, hy, hp, o, e⟩
        · exact .inl (HSS.out k (.inl rfl))
        · exact .inr (HO9.out.base h3)
        · refine .inl (HSS.out k (.inr (.inr ⟨y, ?_, hp, o, e⟩)))
          rcases List.mem_append.1 hy with h5 | h5
          · exact List.mem_of_mem_take h5
          · exact List.mem_of_mem_drop h5⟩
set_option maxRecDepth 100000 in
set_option maxHeartbeats 4000000 in
theorem r_move (h : RSt w p pr ev D nx S) (hw : WfD D nx) (id f t : Int) :
    Calls Tryz.prog 39 #[.pointer (some ⟨p, 0, none⟩), .int .i64 id, .int .i64 f, .int .i64 t] w (RPost w p pr ev S (.int .i64 (moveE D id f t)) (moveD D id f t) nx) := by
  obtain ⟨v, M, h1, rfl, hS⟩ := h
  have hlen := hw.len
  rw [List.length_map] at hlen
  have HF := Lib.hid (r_find h1 id (by omega))
  have HRI := Lib.hid (rright_any f t w)
  unfold moveE moveD mapId
  cases hk : (M.map OverE.dat).findIdx? (fun x => x.id == id) with
  | none =>
    obtain ⟨g1, g2⟩ := idxR_none hk
    rw [g2]
    simp only [Option.isSome_none, Bool.false_eq_true, if_false, ite_self]
    rw [g1] at HF
    have H := Lib.hid (show RSt w p pr ev (M.map OverE.dat) nx S from ⟨v, M, h1, rfl, hS⟩)
    clear h1 hw hk g1 g2 hS
    go_enter Tryz.func39, Tryz.ntmps39
    go_wp2_with fail
    refine HF.out.mono ?_
    rintro e w1 ⟨rfl, rfl⟩
    go_wp2_with fail
    go_ret
    exact RPost.same H.out (Below.refl _ _)
  | some i =>
    obtain ⟨g1, x, hx, g2⟩ := idxR_some hk
    have hil := (List.getElem?_eq_some_iff.1 hx).1
    rw [g2]
    simp only [Option.isSome_some, if_true]
    rw [g1] at HF
    have di : decide ((i : Int) < 0) = false := decide_eq_false (by omega)
    cases hr : rightI f t with
    | false =>
      rw [hr] at HRI
      simp only [Bool.false_eq_true, if_false]
      have H := Lib.hid (show RSt w p pr ev (M.map OverE.dat) nx S from ⟨v, M, h1, rfl, hS⟩)
      clear h1 hw hk g1 g2 hS hx hr
      go_enter Tryz.func39, Tryz.ntmps39
      go_wp2_with fail
      refine HF.out.mono ?_
      rintro e w1 ⟨rfl, rfl⟩
      go_wp2_with fail
      refine HRI.out.mono ?_
      rintro e w1 ⟨rfl, rfl⟩
      go_wp2_with fail
      go_ret
      exact RPost.same H.out (Below.refl _ _)
    | true =>
      rw [hr] at HRI
      simp only [if_true]
      obtain ⟨g, cap, hv, hcap, hcm, _, hg, hfz, hcs⟩ := h1.own.lies eltO (by omega)
      subst hv
      have hpb := h1.pb x (List.mem_of_getElem? hx)
      have hd := h1.up (w' := w.drew) (Below.refl _ w).drew
      have hxm := List.mem_of_getElem? hx
      have hyb : 0 < x.ps.length → ∀ q o, x.A = some ⟨q, o, none⟩ → q ≠ p ∧ g ≠ q := fun hp q o e => ⟨(hpb hp q o e).1, fun e2 => (hpb hp q o e).2 (by rw [e2]; rfl)⟩
      have h2 := hd.put (y := ⟨x.id, f, x.t, x.fr, x.re, x.A, x.c, x.ps, x.g⟩) (j := 1) (u := .int .i64 f) hx (by omega) rfl (hd.ps x hxm) hyb
      have hlen2 : (M.set i ⟨x.id, f, x.t, x.fr, x.re, x.A, x.c, x.ps, x.g⟩).length = M.length := by simp
      rw [← hlen2] at h2
      have h3 := h2.put (y := ⟨x.id, f, t, x.fr, x.re, x.A, x.c, x.ps, x.g⟩) (x := ⟨x.id, f, x.t, x.fr, x.re, x.A, x.c, x.ps, x.g⟩) (i := i) (j := 2) (u := .int .i64 t) (by rw [List.getElem?_set_self hil]) (by omega) rfl (h2.ps ⟨x.id, f, x.t, x.fr, x.re, x.A, x.c, x.ps, x.g⟩ (List.mem_of_getElem? (by rw [List.getElem?_set_self hil]))) hyb
      rw [hlen2, List.set_set] at h3
      have hdat : (M.set i ⟨x.id, f, t, x.fr, x.re, x.A, x.c, x.ps, x.g⟩).map OverE.dat = (M.map OverE.dat).modify i (fun x => ⟨x.id, f, t, x.fr, x.re, x.ps⟩) := dat_set hx rfl
      have k1 := hcs i x 1 _ hx rfl
      have k2 := hcs i x 2 _ hx rfl
      have z1 := hfz (i * 6 + 1) (by omega)
      have z2 := hfz (i * 6 + 2) (by omega)
      have c0 := h1.cell 0 _ rfl
      have hplt := h1.plt
      have hft : ∀ k, footR p (.slice (some ⟨g, 0, none⟩) M.length cap) (M.set i ⟨x.id, f, t, x.fr, x.re, x.A, x.c, x.ps, x.g⟩) k → S k := fun k hk => by
        rcases hk with rfl | h5 | ⟨y, hy, hp, o, e⟩
        · exact hS k (.inl rfl)
        · exact hS k (.inr (.inl h5))
        · rcases List.mem_or_eq_of_mem_set hy with h6 | rfl
          · exact hS k (.inr (.inr ⟨y, h6, hp, o, e⟩))
          · exact hS k (.inr (.inr ⟨x, hxm, hp, o, e⟩))
      have hi1 : (i : Int) < M.length := by omega
      have H3 := Lib.hid h3
      have HD := Lib.hid hdat
      have HFT := Lib.hid hft
      have HSG := Lib.hid (hS g (.inr (.inl rfl)))
      have hgp : ¬ g = p := fun e => h1.vb (by rw [e]; rfl)
      have hpg : ¬ p = g := fun e => hgp e.symm
      clear h1 hd h2 h3 hw hk g1 g2 hS hx hr hcs hfz hpb hyb hxm hdat hft hlen2
      go_enter Tryz.func39, Tryz.ntmps39
      go_wp2_with fail
      refine HF.out.mono ?_
      rintro e w1 ⟨rfl, rfl⟩
      go_wp2_with fail
      refine HRI.out.mono ?_
      rintro e w1 ⟨rfl, rfl⟩
      go_wp2_with fail
      go_region
      all_goals go_wp2_with fail
      all_goals go_ret
      all_goals exact ⟨rfl, _, ⟨_, _, H3.out, HD.out, fun k hk => hk⟩, (((Only.refl _ w).drew).setCell (p := ⟨g, i * 6 + 1, none⟩) HSG.out _).setCell (p := ⟨g, i * 6 + 2, none⟩) HSG.out _, fun k hk => .inl (HFT.out k hk)⟩
end
end Go.Proofs.YthjkdeocdhdkaaaGreat
