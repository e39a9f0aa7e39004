/- Overlays: All. -/
import Derived.Test.YthjkdeocdhdkaaaGreatOvK
namespace Go.Proofs.YthjkdeocdhdkaaaGreat
open Go.RowKit
set_option linter.unusedVariables false
set_option linter.unusedSimpArgs false
section
variable {w w' : World} {x : OverE} {L L' M : List OverE} {b B : Nat} {pr ev nx : Int} {v v' : Value} {A : Option Addr} {ps : List PropE}
/-- The properties of listed overlays lie in memory from B on, apart from the block in which the list lies. -/
def PsIn (w : World) (B : Nat) (v : Value) (M : List OverE) : Prop := ∀ y ∈ M, RSl encP w y.A y.ps ∧ (0 < y.ps.length → ∀ g o, y.A = some ⟨g, o, none⟩ → B ≤ g ∧ v.ownBlock ≠ some g)
theorem RSl.only {α : Type} {enc : α → List Value} {S : Nat → Prop} {xs : List α} (h : RSl enc w A xs) (ho : Only S w w') (hs : 0 < xs.length → ∀ g o, A = some ⟨g, o, none⟩ → ¬ S g) : RSl enc w' A xs := fun hp => by
  obtain ⟨g, o, e, hg, hc⟩ := h hp
  exact ⟨g, o, e, Nat.lt_of_lt_of_le hg ho.size, fun j u hu => (World.cell?_of_block (w := w) (a := ⟨g, o + j, none⟩) (ho.block g hg (hs hp g o e))).trans (hc j u hu)⟩
theorem RSl.lt {α : Type} {enc : α → List Value} {xs : List α} (h : RSl enc w A xs) (hp : 0 < xs.length) {g o : Nat} (e : A = some ⟨g, o, none⟩) : g < w.heap.size := by
  obtain ⟨g', o', e', hg, _⟩ := h hp
  rw [e] at e'; cases e'; exact hg
theorem PsIn.up (h : PsIn w B v M) (hb : Below w.heap.size w w') : PsIn w' B v M := fun y hy => ⟨(h y hy).1.up hb, (h y hy).2⟩
theorem PsIn.snoc {y : OverE} (h : PsIn w B v M) (ho : Only (fun g => v.ownBlock = some g) w w') (hy : RSl encP w y.A y.ps) (hyb : 0 < y.ps.length → ∀ g o, y.A = some ⟨g, o, none⟩ → B ≤ g ∧ v.ownBlock ≠ some g)
    (hv : v'.ownBlock = v.ownBlock ∨ ∃ g, v'.ownBlock = some g ∧ w.heap.size ≤ g) : PsIn w' B v' (M ++ [y]) := by
  have key : ∀ z : OverE, RSl encP w z.A z.ps → (0 < z.ps.length → ∀ g o, z.A = some ⟨g, o, none⟩ → B ≤ g ∧ v.ownBlock ≠ some g) → RSl encP w' z.A z.ps ∧ (0 < z.ps.length → ∀ g o, z.A = some ⟨g, o, none⟩ → B ≤ g ∧ v'.ownBlock ≠ some g) := fun z h1 h2 =>
    ⟨h1.only ho (fun hp g o e => (h2 hp g o e).2), fun hp g o e => ⟨(h2 hp g o e).1, fun e' => by
      rcases hv with h3 | ⟨q, h3, h4⟩
      · exact (h2 hp g o e).2 (h3 ▸ e')
      · rw [h3] at e'; cases e'
        have := h1.lt hp e; omega⟩⟩
  intro z hz
  rcases List.mem_append.1 hz with hz | hz
  · exact key z (h z hz).1 (h z hz).2
  · obtain rfl : z = y := by simpa using hz
    exact key z hy hyb
def AllPost (w : World) (D : List OverD) (e : Ending) (w' : World) : Prop := ∃ v M, e = .returned v ∧ ROwn encO 69 6 w.heap.size w' v M ∧ M.map OverE.dat = D ∧ PsIn w' w.heap.size v M ∧ Below w.heap.size w w'
set_option maxRecDepth 100000 in
set_option maxHeartbeats 1000000 in
theorem oall (h : OvsAt w b pr ev v L nx) (hp : ∀ x ∈ L, x.ps.length ≤ 1000000) (hl : L.length ≤ 1000000) : Calls Tryz.prog 11 #[.pointer (some ⟨b, 0, none⟩)] w (AllPost w (L.map OverE.dat)) := by
  obtain ⟨A, cp, rfl, hA1, hA2, hAs⟩ := h.own.shape eltT
  have HV := Lib.hid (ovalid h)
  have c2 := h.cell 2 _ rfl
  have H := Lib.hid h
  have HAs := Lib.hid hAs
  have HPL := Lib.hid hp
  clear h hAs hp
  go_enter Tryz.func11, Tryz.ntmps11
  go_wp2_with fail
  refine HV.out.mono ?_
  rintro e w0 ⟨rfl, rfl⟩
  go_wp2_with fail
  clear c2
  go_loopw [3, 14] (fun vo vi wr => ∃ (k : Nat) (M : List OverE), k ≤ L.length ∧ vi = .int .i64 k ∧ ROwn encO 69 6 w.heap.size wr vo M ∧ M.map OverE.dat = (L.map OverE.dat).take k ∧ PsIn wr w.heap.size vo M ∧ Below w.heap.size w wr) (fun _ vi _ => L.length - (intOf vi).toNat)
  case atStart => exact ⟨0, [], by omega, rfl, ROwn.nil _ _, rfl, fun y hy => by simp at hy, Below.refl _ _⟩
  case round =>
    obtain ⟨k, M, hk, rfl, hown, hM, hps, hbel⟩ := hrel
    have hMl : M.length = k := by have := congrArg List.length hM; simp at this; omega
    by_cases hlt : k < L.length
    · obtain ⟨x, hx⟩ : ∃ x, L[k]? = some x := ⟨_, List.getElem?_eq_getElem hlt⟩
      obtain ⟨g, o, hAe, hg, hc⟩ := (HAs.out.up hbel).at_ eltT hx
      have k0 := hc 0 _ rfl
      simp only [Nat.mul_one, Nat.add_zero] at k0
      have hxm := List.mem_of_getElem? hx
      have HCP := Lib.hid (copied_any ((H.out.ins x hxm).up hbel) (HPL.out x hxm))
      have hdk : (L.map OverE.dat).take (k + 1) = (L.map OverE.dat).take k ++ [x.dat] := by
        rw [List.take_add_one, List.getElem?_map, hx]; rfl
      obtain ⟨Av, cv, hv, _, _, _⟩ := hown.shape eltO
      have HO := Lib.hid hown
      have HM := Lib.hid hM
      have HPS := Lib.hid hps
      have HB := Lib.hid hbel
      have HDK := Lib.hid hdk
      have hlt' : (k : Int) < L.length := by omega
      have HAE := Lib.hid hAe
      rw [hMl] at hv
      obtain ⟨id, f, t, fr, re, xA, xc, xps, xg⟩ := x
      clear hc hx hxm hdk hown hM hps hbel
      subst hv
      have hAe := HAE.out
      subst hAe
      go_wp2_with fail
      refine HCP.out.mono ?_
      rintro e w1 ⟨A1, c1, rfl, hown1, hb1⟩
      have ho1 := HO.out.up hb1
      obtain ⟨v2, w2, happ, hown2, hbel2, hon2, hv2⟩ := append_elem eltO ho1 (Nat.le_trans HB.out.size hb1.size) ⟨id, f, t, fr, re, A1, c1, xps, 0⟩ (by omega) (by omega)
      obtain ⟨A1', c1', e1, _, _, hr1⟩ := hown1.shape eltP
      have hr1' : RSl encP w1 A1 xps := by cases e1; exact hr1
      have hsn := (HPS.out.up hb1).snoc (y := ⟨id, f, t, fr, re, A1, c1, xps, 0⟩) (v' := v2) hon2 hr1' (fun hp g o e => by
        have := hown1.base (g := g) (by rw [show A1 = some ⟨g, o, none⟩ from e]; rfl)
        exact ⟨Nat.le_trans HB.out.size this, fun e' => by have := HO.out.lt e'; omega⟩) hv2
      obtain ⟨A2, c2', hv2', _, _, _⟩ := hown2.shape eltO
      have hl2 : (M ++ [(⟨id, f, t, fr, re, A1, c1, xps, 0⟩ : OverE)]).length = k + 1 := by simp [hMl]
      rw [hl2] at hv2'
      have HP := Lib.hid happ
      have HO2 := Lib.hid hown2
      have HS := Lib.hid hsn
      have HB2 := Lib.hid ((HB.out.trans (hb1.mono HB.out.size)).trans hbel2)
      clear happ hown2 hsn hbel2 hon2 hv2 hb1 ho1 hown1 e1 hr1 hr1' hl2
      subst hv2'
      go_wp2_with (at_builtin; refine wpList_app_run rfl _ _ _ rfl rfl rfl HP.out ?_)
      go_roundw
      case rel => exact ⟨k + 1, _, by omega, by go_num, HO2.out, by rw [List.map_append, HM.out, HDK.out]; rfl, HS.out, HB2.out⟩
      case measure => simp [intOf]; omega
    · obtain rfl : k = L.length := by omega
      obtain ⟨Av, cv, hv, _, _, _⟩ := hown.shape eltO
      have HO := Lib.hid hown
      have HM := Lib.hid hM
      have HPS := Lib.hid hps
      have HB := Lib.hid hbel
      generalize M.length = ml at hv
      clear hown hM hps hbel hMl
      subst hv
      go_wp2_with fail
      go_ret
      exact ⟨_, M, rfl, HO.out, by rw [HM.out, List.take_of_length_le (by simp)], HPS.out, HB.out⟩
end
end Go.Proofs.YthjkdeocdhdkaaaGreat
