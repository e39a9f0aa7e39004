/- Overlays: the state of a walk over acts; an insertion and the deletion of the same range. -/
import Derived.Test.YthjkdeocdhdkaaaGreatOvDo
import Derived.Test.YthjkdeocdhdkaaaGreatOvSm
namespace Go.Proofs.YthjkdeocdhdkaaaGreat
open Go.RowKit
set_option linter.unusedVariables false
set_option linter.unusedSimpArgs false
section
variable {w0 w w' W : World} {D : List OverD} {b : Nat} {pr ev nx : Int} {S : Nat → Prop} {j : Nat}
/-- After j acts; what the set owns is new since w0. -/
structure ActSt (w0 w : World) (b : Nat) (pr ev : Int) (D : List OverD) (nx : Int) (j : Nat) : Prop where
  wf : WfD D nx
  n1 : nx ≤ j
  st : OSt w b pr ev D nx (fun k => w0.heap.size ≤ k)
  bel : Below w0.heap.size w0 w
def ActP (w0 : World) (b : Nat) (pr ev : Int) (ids : List Int) (er : Int) (D : List OverD) (nx : Int) (j : Nat) (e : Ending) (w' : World) : Prop :=
  ∃ gv, e = .returned (.tuple #[gv, .int .i64 er]) ∧ ActSt w0 w' b pr ev D nx j
theorem ActSt.up (h : ActSt w0 w b pr ev D nx j) (hb : Below w.heap.size w w') : ActSt w0 w' b pr ev D nx j := ⟨h.wf, h.n1, h.st.up hb, up2 h.bel hb⟩
theorem ActSt.mono {k : Nat} (h : ActSt w0 w b pr ev D nx j) (hk : j ≤ k) : ActSt w0 w b pr ev D nx k := ⟨h.wf, by have := h.n1; omega, h.st, h.bel⟩
theorem ActSt.start {w1 : World} (h : OSt w b pr ev [] 0 (fun k => w1.heap.size ≤ k)) (hb : Below w1.heap.size w1 w) (h0 : Below w0.heap.size w0 w1) : ActSt w0 w b pr ev [] 0 0 :=
  ⟨WfD.nil, by omega, h.mono fun k hk => Nat.le_trans h0.size hk, up2 h0 hb⟩
theorem act_do (h : ActSt w0 w b pr ev D nx j) (a : Act18) (hj : j ≤ 1000000) :
    Calls Tryz.prog 7 #[.pointer (some ⟨b, 0, none⟩), actV a] w (ActP w0 b pr ev (doR ev D nx a).ids (doR ev D nx a).err (doR ev D nx a).D (doR ev D nx a).nx (j + 1)) := by
  have hn := h.n1
  refine (do_any h.st h.wf a (by omega)).mono ?_
  rintro e w' ⟨gv, he, ho, S', h1, h2, h3⟩
  have hz := h.bel.size
  refine ⟨gv, he, wf_do h.wf ev a, by have := (nx_do (D := D) (nx := nx) ev a).2; omega, h1.mono fun k hk => ?_, h.bel.trans (h2.below hz fun k hk => hk)⟩
  rcases h3 k hk with h4 | ⟨h4, _⟩
  · exact h4
  · omega
theorem val_neg {ps : List PropE} (h : GoodP ps) {nm : Int} (hn : nm < 0) : valP ps nm = none := by
  unfold valP
  have : isP ps nm = false := by
    unfold isP
    cases hq : ps[ixP ps nm]? with
    | none => rfl
    | some p =>
      have := h.2.2 p (List.mem_of_getElem? hq)
      simp; omega
  rw [this]; rfl
theorem back_insF (a n f t : Int) (fr re : Bool) (hn : 0 ≤ n) (hft : f ≤ t) : backI (insF a n f t fr re) a (a + n) = f := by
  unfold insF backI
  cases fr <;> cases re <;> simp <;> (repeat' split) <;> omega
theorem back_insT (a n f t : Int) (fr re : Bool) (hn : 0 ≤ n) (hft : f ≤ t) : backI (insT a n f t fr re) a (a + n) = t := by
  unfold insT backI
  cases fr <;> cases re <;> simp <;> (repeat' split) <;> omega
theorem ins_cases18 (D : List OverD) (a n : Int) : (insE D a n ≠ 0 ∧ insertedD D a n = D) ∨ (insE D a n = 0 ∧ insertedD D a n = D.map (insD a n) ∧ 1 ≤ a ∧ a ≤ 1099511627776 ∧ 0 ≤ n ∧ n ≤ 65536) := by
  by_cases h : insE D a n = 0
  · right
    refine ⟨h, by unfold insertedD; rw [if_pos h], ?_⟩
    unfold insE at h
    split at h
    · rename_i hp
      have := (placeI_iff a).1 hp
      split at h
      · omega
      · omega
    · omega
  · left
    exact ⟨h, by unfold insertedD; rw [if_neg h]⟩
theorem ins_back (hw : WfD D nx) {a n : Int} (h1 : 1 ≤ a) (hn : 0 ≤ n) (hf : a ≤ 1099511627776 - n) :
    delI (-1) a (a + n) (D.map (insD a n)) = [] ∧ delE a (a + n) = 0 ∧ delD (-1) a (a + n) (D.map (insD a n)) = D := by
  have hr : rightI a (a + n) = true := (rightI_iff _ _).2 (by omega)
  have hg : ∀ x ∈ D, goesX (-1) a (a + n) (insD a n x) = false := fun x hx => by
    unfold goesX goesB
    rw [show (delX a (a + n) (insD a n x)).ps = x.ps from rfl, val_neg (hw.good x hx).ps (by omega)]
    simp
  unfold delI delE delD goneI leftD
  rw [hr]
  refine ⟨?_, rfl, ?_⟩
  · rw [if_pos rfl, List.filter_eq_nil_iff.2, List.map_nil]
    intro y hy
    obtain ⟨x, hx, rfl⟩ := List.mem_map.1 hy
    rw [hg x hx]; simp
  · rw [if_pos rfl, List.filter_eq_self.2, List.map_map]
    · refine (List.map_congr_left fun x hx => ?_).trans (List.map_id D)
      have g := (hw.good x hx).ft
      show delX a (a + n) (insD a n x) = x
      unfold delX insD
      simp only [back_insF a n x.f x.t x.fr x.re hn g, back_insT a n x.f x.t x.fr x.re hn g]
    · intro y hy
      obtain ⟨x, hx, rfl⟩ := List.mem_map.1 hy
      rw [hg x hx]; rfl
/-- A list of overlays that All handed back, as memory goes on. -/
structure AllAt (B : Nat) (w : World) (v : Value) (M : List OverE) (D : List OverD) : Prop where
  own : ROwn encO 69 6 B w v M
  dat : M.map OverE.dat = D
  ps : PsIn w B v M
theorem AllAt.up {B : Nat} {v : Value} {M : List OverE} (h : AllAt B w v M D) (hb : Below w.heap.size w w') : AllAt B w' v M D := ⟨h.own.up hb, h.dat, h.ps.up hb⟩
theorem AllAt.only {B : Nat} {v : Value} {M : List OverE} {T : Nat → Prop} (h : AllAt B w v M D) (ho : Only T w w') (ht : ∀ k, T k → k < B) : AllAt B w' v M D :=
  ⟨h.own.kept fun g hg => ho.block g (h.own.lt hg) (fun e => by have := h.own.base hg; have := ht g e; omega), h.dat,
   fun y hy => ⟨(h.ps y hy).1.only ho (fun hp g o e ht' => by have := ((h.ps y hy).2 hp g o e).1; have := ht g ht'; omega), (h.ps y hy).2⟩⟩
theorem AllAt.only2 {w5 : World} {B : Nat} {v : Value} {M : List OverE} {T : Nat → Prop} (h5 : AllAt B w5 v M D) (h : AllAt B w v M D) (ho : Only T w w') (ht : ∀ k, T k → k < B ∨ w5.heap.size ≤ k) : AllAt B w' v M D :=
  ⟨h.own.kept fun g hg => ho.block g (h.own.lt hg) (fun e => by
      have h1 := h.own.base hg
      have h2 := h5.own.lt hg
      rcases ht g e with h3 | h3 <;> omega), h.dat,
   fun y hy => ⟨(h.ps y hy).1.only ho (fun hp g o e ht' => by
      have h1 := ((h.ps y hy).2 hp g o e).1
      have h2 := (h5.ps y hy).1.lt hp e
      rcases ht g ht' with h3 | h3 <;> omega), (h.ps y hy).2⟩⟩
theorem all_same {B B' : Nat} {v v' : Value} {M M' : List OverE} (hw : WfD D nx) (h : AllAt B w v M D) (h' : AllAt B' w v' M' D) :
    Calls Tryz.prog 10 #[v, v'] w fun e w' => e = .returned (.bool true) ∧ Below w.heap.size w w' := by
  obtain ⟨A, c, rfl, _, _, hr⟩ := h.own.shape eltO
  obtain ⟨A', c', rfl, _, _, hr'⟩ := h'.own.shape eltO
  have hl : M.length = D.length := by have := congrArg List.length h.dat; simpa using this
  have hl2 := hw.len
  refine same18_true c c' hr hr' (fun y hy => (h.ps y hy).1) (fun y hy => (h'.ps y hy).1) (h.dat.trans h'.dat.symm) (by omega) (fun y hy => ?_)
  have hg : GoodX nx y.dat := hw.good _ (by rw [← h.dat]; exact List.mem_map.2 ⟨y, hy, rfl⟩)
  have h64 : y.ps.length ≤ 64 := hg.ps.2.1
  omega
theorem st_all (h : OSt w b pr ev D nx S) (hw : WfD D nx) : Calls Tryz.prog 11 #[.pointer (some ⟨b, 0, none⟩)] w fun e w' => ∃ v M, e = .returned v ∧ AllAt w.heap.size w' v M D ∧ Below w.heap.size w w' :=
  (s_all h hw).mono fun e w' ⟨v, M, he, h1, h2, h3, h4⟩ => ⟨v, M, he, ⟨h1, h2, h3⟩, h4⟩
end
end Go.Proofs.YthjkdeocdhdkaaaGreat
