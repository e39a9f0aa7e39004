/- Overlays: what is always so of the data; the calls in terms of the data alone. -/
import Derived.Test.YthjkdeocdhdkaaaGreatOvVa
import Derived.Test.YthjkdeocdhdkaaaGreatOvYb
namespace Go.Proofs.YthjkdeocdhdkaaaGreat
open Go.RowKit
set_option linter.unusedVariables false
set_option linter.unusedSimpArgs false
section
variable {w w' W : World} {D : List OverD} {x : OverE} {L L' M : List OverE} {b : Nat} {pr ev nx : Int} {v v' : Value} {A : Option Addr}
def GoodP (ps : List PropE) : Prop := SortedP ps ∧ ps.length ≤ 64 ∧ ∀ p ∈ ps, 0 ≤ p.name
structure GoodX (nx : Int) (x : OverD) : Prop where
  id0 : 0 ≤ x.id
  id1 : x.id < nx
  f0 : 1 ≤ x.f
  ft : x.f ≤ x.t
  t1 : x.t ≤ 1099511627776
  ps : GoodP x.ps
structure WfD (D : List OverD) (nx : Int) : Prop where
  asc : (D.map OverD.id).Pairwise (· < ·)
  good : ∀ x ∈ D, GoodX nx x
  len : D.length ≤ 1024
  nx0 : 0 ≤ nx
theorem WfD.nil : WfD [] 0 := ⟨List.Pairwise.nil, by simp, by simp, by omega⟩
theorem WfD.nodup (h : WfD D nx) : (D.map OverD.id).Nodup := h.asc.imp fun h e => by omega
theorem placeI_iff (a : Int) : placeI a = true ↔ 1 ≤ a ∧ a ≤ 1099511627776 := by unfold placeI; simp
theorem rightI_iff (f t : Int) : rightI f t = true ↔ 1 ≤ f ∧ f ≤ t ∧ t ≤ 1099511627776 := by
  unfold rightI; simp only [Bool.and_eq_true, placeI_iff, decide_eq_true_eq]; omega
theorem WfD.sub {D' : List OverD} (h : WfD D nx) (hs : D'.Sublist D) : WfD D' nx :=
  ⟨h.asc.sublist (hs.map _), fun x hx => h.good x (hs.subset hx), Nat.le_trans hs.length_le h.len, h.nx0⟩
theorem WfD.map {u : OverD → OverD} (h : WfD D nx) (hu : ∀ x ∈ D, (u x).id = x.id ∧ GoodX nx (u x)) : WfD (D.map u) nx := by
  refine ⟨?_, fun y hy => ?_, by simpa using h.len, h.nx0⟩
  · have : (D.map u).map OverD.id = D.map OverD.id := by rw [List.map_map]; exact List.map_congr_left fun x hx => (hu x hx).1
    rw [this]; exact h.asc
  · obtain ⟨x, hx, rfl⟩ := List.mem_map.1 hy
    exact (hu x hx).2
theorem modify_map {u : OverD → OverD} : ∀ (D : List OverD) (k : Nat), (∀ x ∈ D, (u x).id = x.id) → (D.modify k u).map OverD.id = D.map OverD.id
  | [], k, _ => by simp
  | a :: D, 0, h => by simp [h a (by simp)]
  | a :: D, k + 1, h => by simp [modify_map D k (fun x hx => h x (by simp [hx]))]
theorem mem_modify {u : OverD → OverD} : ∀ {D : List OverD} {k : Nat} {y : OverD}, y ∈ D.modify k u → y ∈ D ∨ ∃ x ∈ D, y = u x
  | [], k, y, h => by simp at h
  | a :: D, 0, y, h => by
    simp at h
    rcases h with rfl | h
    · exact .inr ⟨a, by simp, rfl⟩
    · exact .inl (by simp [h])
  | a :: D, k + 1, y, h => by
    simp at h
    rcases h with rfl | h
    · exact .inl (by simp)
    · rcases mem_modify h with h1 | ⟨x, h1, h2⟩
      · exact .inl (by simp [h1])
      · exact .inr ⟨x, by simp [h1], h2⟩
theorem WfD.mapId {u : OverD → OverD} (h : WfD D nx) (id : Int) (hu : ∀ x ∈ D, (u x).id = x.id ∧ GoodX nx (u x)) : WfD (mapId D id u) nx := by
  unfold Go.Proofs.YthjkdeocdhdkaaaGreat.mapId
  split
  · refine ⟨by rw [modify_map D _ fun x hx => (hu x hx).1]; exact h.asc, fun y hy => ?_, by simpa using h.len, h.nx0⟩
    rcases mem_modify hy with h1 | ⟨x, h1, rfl⟩
    · exact h.good y h1
    · exact (hu x h1).2
  · exact h
theorem wf_add (h : WfD D nx) (f t : Int) (fr re : Bool) : WfD (addD D nx f t fr re) (addN D nx f t) := by
  unfold addD addN addE
  cases hr : rightI f t with
  | false => simpa using h
  | true =>
    obtain ⟨r1, r2, r3⟩ := (rightI_iff f t).1 hr
    by_cases hl : D.length < 1024
    · simp only [hl, if_true]
      refine ⟨?_, fun x hx => ?_, by simp; omega, by have := h.nx0; omega⟩
      · rw [List.map_append]
        exact List.pairwise_append.2 ⟨h.asc, by simp, fun a ha c hc => by
          simp at hc; subst hc
          obtain ⟨x, hx, rfl⟩ := List.mem_map.1 ha
          exact (h.good x hx).id1⟩
      · rcases List.mem_append.1 hx with hx | hx
        · have g := h.good x hx
          exact ⟨g.id0, by have := g.id1; omega, g.f0, g.ft, g.t1, g.ps⟩
        · obtain rfl : x = newD nx f t fr re := by simpa using hx
          exact ⟨h.nx0, by show nx < nx + 1; omega, r1, r2, r3, List.Pairwise.nil, by simp [newD], by simp [newD]⟩
    · simpa [hl] using h
theorem wf_drop (h : WfD D nx) (id : Int) : WfD (dropD D id) nx := h.sub List.filter_sublist
theorem wf_move (h : WfD D nx) (id f t : Int) : WfD (moveD D id f t) nx := by
  unfold moveD
  cases hr : rightI f t with
  | false => simpa using h
  | true =>
    obtain ⟨r1, r2, r3⟩ := (rightI_iff f t).1 hr
    exact h.mapId id fun x hx => ⟨rfl, (h.good x hx).id0, (h.good x hx).id1, r1, r2, r3, (h.good x hx).ps⟩
theorem ixP_lt_name {ps : List PropE} {nm : Int} {p : PropE} (hp : p ∈ ps.take (ixP ps nm)) : p.name < nm := by
  unfold ixP at hp
  rw [show ps.take (ps.takeWhile (fun p => decide (p.name < nm))).length = ps.takeWhile (fun p => decide (p.name < nm)) from List.prefix_iff_eq_take.1 (List.takeWhile_prefix _) |>.symm] at hp
  have h := List.all_takeWhile (l := ps) (p := fun p => decide (p.name < nm))
  simpa using List.all_eq_true.1 h p hp
theorem ixP_ge_name {ps : List PropE} {nm : Int} (hs : SortedP ps) {p : PropE} (hp : p ∈ ps.drop (ixP ps nm)) : nm ≤ p.name := by
  obtain ⟨j, hj⟩ := List.mem_iff_getElem?.1 hp
  rw [List.getElem?_drop] at hj
  have hlt : ixP ps nm < ps.length := by have := (List.getElem?_eq_some_iff.1 hj).1; omega
  obtain ⟨q, hq⟩ : ∃ q, ps[ixP ps nm]? = some q := ⟨_, List.getElem?_eq_getElem hlt⟩
  have h1 : nm ≤ q.name := by
    have h2 := List.head?_dropWhile_not (fun p : PropE => decide (p.name < nm)) ps
    have h3 : ps.dropWhile (fun p => decide (p.name < nm)) = ps.drop (ixP ps nm) := by
      have := List.takeWhile_append_dropWhile (p := fun p : PropE => decide (p.name < nm)) (l := ps)
      have h4 : (ps.takeWhile (fun p => decide (p.name < nm)) ++ ps.dropWhile (fun p => decide (p.name < nm))).drop (ps.takeWhile (fun p => decide (p.name < nm))).length = ps.dropWhile (fun p => decide (p.name < nm)) := List.drop_left' rfl
      rw [this] at h4
      exact h4.symm
    rw [h3, List.head?_drop, hq] at h2
    simpa using h2
  rcases Nat.eq_zero_or_pos j with h0 | h0
  · subst h0
    rw [Nat.add_zero, hq] at hj
    cases hj; exact h1
  · have := hs.lt hq hj (by omega)
    omega
theorem good_put {ps : List PropE} (h : GoodP ps) (nm k n : Int) (hn : 0 ≤ nm) (hf : isP ps nm = true ∨ ps.length < 64) : GoodP (putPs ps nm k n) := by
  obtain ⟨h1, h2, h3⟩ := h
  unfold putPs
  cases his : isP ps nm with
  | true =>
    rw [if_pos rfl]
    obtain ⟨k0, n0, hp⟩ := isP_at his
    refine ⟨?_, by simpa using h2, fun p hp' => ?_⟩
    · unfold SortedP
      have : (ps.set (ixP ps nm) ⟨nm, k, n⟩).map PropE.name = ps.map PropE.name := by
        rw [List.map_set]
        apply List.ext_getElem?
        intro j
        by_cases e : ixP ps nm = j
        · subst e
          rw [List.getElem?_set_self (by simpa using (List.getElem?_eq_some_iff.1 hp).1), List.getElem?_map, hp]; rfl
        · rw [List.getElem?_set_ne e]
      rw [this]; exact h1
    · rcases List.mem_or_eq_of_mem_set hp' with h4 | rfl
      · exact h3 p h4
      · exact hn
  | false =>
    rw [if_neg (by decide)]
    have hlt : ps.length < 64 := by rcases hf with h | h
                                    · rw [his] at h; cases h
                                    · exact h
    have hix := ixP_le ps nm
    have hge : ∀ p ∈ ps.drop (ixP ps nm), nm < p.name := fun p hp => by
      have h5 := ixP_ge_name h1 hp
      rcases Int.lt_or_eq_of_le h5 with h6 | h6
      · exact h6
      · exfalso
        obtain ⟨j, hj⟩ := List.mem_iff_getElem?.1 hp
        rw [List.getElem?_drop] at hj
        have hl2 : ixP ps nm < ps.length := by have := (List.getElem?_eq_some_iff.1 hj).1; omega
        obtain ⟨q, hq⟩ : ∃ q, ps[ixP ps nm]? = some q := ⟨_, List.getElem?_eq_getElem hl2⟩
        have hqn : nm ≤ q.name := ixP_ge_name h1 (p := q) (List.mem_iff_getElem?.2 ⟨0, by rw [List.getElem?_drop, Nat.add_zero]; exact hq⟩)
        have hqne : q.name ≠ nm := fun e => by
          unfold isP at his; rw [hq] at his; simp [e] at his
        rcases Nat.eq_zero_or_pos j with h0 | h0
        · subst h0; rw [Nat.add_zero, hq] at hj; cases hj; exact hqne h6.symm
        · have := h1.lt hq hj (by omega); omega
    refine ⟨?_, by simp; omega, fun p hp => ?_⟩
    · unfold SortedP
      rw [List.map_append, List.map_cons]
      refine List.pairwise_append.2 ⟨List.Pairwise.sublist ((List.take_sublist _ _).map _) h1, List.pairwise_cons.2 ⟨fun a ha => ?_, List.Pairwise.sublist ((List.drop_sublist _ _).map _) h1⟩, fun a ha c hc => ?_⟩
      · obtain ⟨p, hp, rfl⟩ := List.mem_map.1 ha; exact hge p hp
      · obtain ⟨p, hp, rfl⟩ := List.mem_map.1 ha
        have h5 := ixP_lt_name hp
        rcases List.mem_cons.1 hc with rfl | hc
        · exact h5
        · obtain ⟨q, hq, rfl⟩ := List.mem_map.1 hc
          have := hge q hq; omega
    · rcases List.mem_append.1 hp with hp | hp
      · exact h3 p (List.mem_of_mem_take hp)
      · rcases List.mem_cons.1 hp with rfl | hp
        · exact hn
        · exact h3 p (List.mem_of_mem_drop hp)
theorem good_take {ps : List PropE} (h : GoodP ps) (nm : Int) : GoodP (takePs ps nm) := by
  have hsub : (takePs ps nm).Sublist ps := by
    unfold takePs
    split
    · conv => rhs; rw [← List.take_append_drop (ixP ps nm) ps]
      exact (List.Sublist.refl _).append (List.drop_sublist_drop_left _ (by omega))
    · exact List.Sublist.refl _
  exact ⟨List.Pairwise.sublist (hsub.map _) h.1, Nat.le_trans hsub.length_le h.2.1, fun p hp => h.2.2 p (hsub.subset hp)⟩
theorem psD_good {x : OverD} {ps : List PropE} (h : GoodX nx x) (hp : GoodP ps) : GoodX nx (psD x ps) := ⟨h.id0, h.id1, h.f0, h.ft, h.t1, hp⟩
theorem endsD_mem {id : Int} {x : OverD} (h : endsD D id = some x) : x ∈ D ∧ x.id = id := ⟨List.mem_of_find?_eq_some h, by simpa using List.find?_some h⟩
theorem endsD_at {id : Int} {k : Nat} {x y : OverD} (h : endsD D id = some x) (hk : D.findIdx? (fun x => x.id == id) = some k) (hy : D[k]? = some y) : y = x := by
  obtain ⟨h1, h2, h3⟩ := List.findIdx?_eq_some_iff_getElem.1 hk
  unfold endsD at h
  obtain ⟨_, i, hi, he, hno⟩ := List.find?_eq_some_iff_getElem.1 h
  have hik : i = k := by
    rcases Nat.lt_trichotomy i k with h4 | h4 | h4
    · have := h3 i h4
      rw [he] at this
      have h5 := List.find?_some h
      simp at this h5; exact absurd h5 this
    · exact h4
    · have := hno k h4
      simp at this h2; exact absurd h2 this
  subst hik
  rw [List.getElem?_eq_getElem hi] at hy
  cases hy; exact he
theorem wf_mapId1 {id : Int} {x : OverD} {u : OverD → OverD} (h : WfD D nx) (hx : endsD D id = some x) (hi : ∀ y, (u y).id = y.id) (hg : GoodX nx (u x)) : WfD (mapId D id u) nx := by
  unfold Go.Proofs.YthjkdeocdhdkaaaGreat.mapId
  split
  · rename_i k hk
    refine ⟨by rw [modify_map D _ fun x hx => hi x]; exact h.asc, fun y hy => ?_, by simpa using h.len, h.nx0⟩
    obtain ⟨j, hj⟩ := List.mem_iff_getElem?.1 hy
    rw [List.getElem?_modify] at hj
    by_cases e : k = j
    · subst e
      cases hy2 : D[k]? with
      | none => rw [hy2] at hj; cases hj
      | some z =>
        rw [hy2] at hj
        simp at hj
        subst hj
        rw [endsD_at hx hk hy2]; exact hg
    · simp only [e, if_false, id_eq, Option.map_id_fun', Option.map_id'] at hj
      have hj' : D[j]? = some y := by
        cases hz : D[j]? with
        | none => rw [hz] at hj; cases hj
        | some z => rw [hz] at hj; simpa using hj
      exact h.good y (List.mem_of_getElem? hj')
  · exact h
theorem wf_put (h : WfD D nx) (id nm k n : Int) : WfD (putD D id nm k n) nx := by
  unfold putD putE
  cases hx : endsD D id with
  | none => simpa using h
  | some x =>
    have g := h.good x (endsD_mem hx).1
    simp only
    by_cases hn : nm < 0
    · simpa [hn] using h
    · simp only [hn, if_false]
      cases his : isP x.ps nm with
      | true => exact wf_mapId1 h hx (fun y => rfl) (psD_good g (good_put g.ps nm k n (by omega) (.inl his)))
      | false =>
        by_cases hf : 64 ≤ x.ps.length
        · simpa [hf] using h
        · simp only [hf, if_false]
          exact wf_mapId1 h hx (fun y => rfl) (psD_good g (good_put g.ps nm k n (by omega) (.inr (by omega))))
theorem wf_take (h : WfD D nx) (id nm : Int) : WfD (takeD D id nm) nx := by
  unfold takeD
  split
  · exact h.mapId id fun x hx => ⟨rfl, psD_good (h.good x hx) (good_take (h.good x hx).ps nm)⟩
  · exact h
theorem wf_ins (h : WfD D nx) (at_ n : Int) : WfD (insertedD D at_ n) nx := by
  unfold insertedD
  split
  · rename_i he
    have hn : 0 ≤ n ∧ insOk D at_ n = true := by
      unfold insE at he
      split at he
      · split at he
        · omega
        · split at he
          · rename_i h1 h2; exact ⟨by omega, h2⟩
          · omega
      · omega
    refine h.map fun x hx => ⟨rfl, ?_⟩
    have g := h.good x hx
    have hp := (placeI_iff _).1 (List.all_eq_true.1 hn.2 x hx)
    have g1 := g.f0
    have g2 := g.ft
    refine ⟨g.id0, g.id1, ?_, ?_, hp.2, g.ps⟩
    · show 1 ≤ insF at_ n x.f x.t x.fr x.re
      unfold insF; split <;> (try split) <;> omega
    · show insF at_ n x.f x.t x.fr x.re ≤ insT at_ n x.f x.t x.fr x.re
      unfold insF insT
      cases x.fr <;> cases x.re <;> simp <;> (repeat' split) <;> omega
  · exact h
theorem back_mono {a c f t : Int} (hf : f ≤ t) (h : a ≤ c) : backI a f t ≤ backI c f t := by
  unfold backI; split <;> (try split) <;> (try split) <;> (try split) <;> omega
theorem back_ge {a f t : Int} (h1 : 1 ≤ a) (h2 : 1 ≤ f) (h3 : f ≤ t) : 1 ≤ backI a f t := by unfold backI; split <;> (try split) <;> omega
theorem back_le {a f t : Int} (h3 : f ≤ t) : backI a f t ≤ a := by unfold backI; split <;> (try split) <;> omega
theorem wf_del (h : WfD D nx) (ev f t : Int) : WfD (delD ev f t D) nx := by
  unfold delD
  cases hr : rightI f t with
  | false => simpa using h
  | true =>
    obtain ⟨r1, r2, r3⟩ := (rightI_iff f t).1 hr
    unfold leftD
    refine WfD.map (h.sub List.filter_sublist) fun x hx => ?_
    have g := h.good x (List.mem_filter.1 hx).1
    have g1 := g.f0
    have g2 := g.ft
    have g3 := g.t1
    exact ⟨rfl, g.id0, g.id1, back_ge g1 r1 r2, back_mono r2 g2, by have := back_le (a := x.t) r2; show backI x.t f t ≤ _; omega, g.ps⟩
end
end Go.Proofs.YthjkdeocdhdkaaaGreat
