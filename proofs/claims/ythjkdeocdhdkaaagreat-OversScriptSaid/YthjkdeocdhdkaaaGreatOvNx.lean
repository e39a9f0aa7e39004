/- Overlays: Next. -/
import Derived.Test.YthjkdeocdhdkaaaGreatOvAk
namespace Go.Proofs.YthjkdeocdhdkaaaGreat
open Go.RowKit
set_option linter.unusedVariables false
set_option linter.unusedSimpArgs false
section
variable {w w' W : World} {x : OverE} {D : List OverD} {L : List OverE} {b : Nat} {pr ev nx : Int} {v : Value} {S : Nat → Prop}
def nxS (at_ c m : Int) : Int := if at_ < c ∧ c < m then c else m
def nxX (at_ m : Int) (x : OverD) : Int := nxS at_ x.t (nxS at_ x.f m)
/-- What Next hands back. -/
def nextI (D : List OverD) (at_ most : Int) : Int := D.foldl (nxX at_) most
def NxRel (at_ m f t : Int) (vm vi : Value) : Prop := (vi = .int .i64 0 ∧ vm = .int .i64 m) ∨ (vi = .int .i64 1 ∧ vm = .int .i64 (nxS at_ f m)) ∨ (vi = .int .i64 2 ∧ vm = .int .i64 (nxS at_ t (nxS at_ f m)))
theorem idx2_0 (f t : Int) (w : World) : (Instr.index 79 (.agg #[.int .i64 f, .int .i64 t]) (.int .i64 0)).run Tryz.prog w = .ok (.int .i64 f) w := by kernel_rfl
theorem idx2_1 (f t : Int) (w : World) : (Instr.index 79 (.agg #[.int .i64 f, .int .i64 t]) (.int .i64 1)).run Tryz.prog w = .ok (.int .i64 t) w := by kernel_rfl
set_option maxRecDepth 100000 in
set_option maxHeartbeats 2000000 in
theorem onext (h : OvsAt w b pr ev v L nx) (at_ most : Int) (hl : L.length ≤ 1000000) : Calls Tryz.prog 18 #[.pointer (some ⟨b, 0, none⟩), .int .i64 at_, .int .i64 most] w fun e w' => e = .returned (.int .i64 (nextI (L.map OverE.dat) at_ most)) ∧ Below w.heap.size w w' := by
  obtain ⟨A, cp, rfl, hA1, hA2, hAs⟩ := h.own.shape eltT
  have HV := Lib.hid (ovalid h)
  have c2 := h.cell 2 _ rfl
  have H := Lib.hid h
  have HAs := Lib.hid hAs
  clear h hAs
  go_enter Tryz.func18, Tryz.ntmps18
  go_wp2_with fail
  refine HV.out.mono ?_
  rintro e w0 ⟨rfl, rfl⟩
  go_wp2_with fail
  clear c2
  go_loopw [2, 20] (fun vm vi wr => ∃ k : Nat, k ≤ L.length ∧ vi = .int .i64 k ∧ vm = .int .i64 (nextI ((L.take k).map OverE.dat) at_ most) ∧ Below w.heap.size w wr) (fun _ vi _ => L.length - (intOf vi).toNat)
  case atStart => exact ⟨0, by omega, rfl, rfl, Below.refl _ _⟩
  case round =>
    obtain ⟨k, hk, rfl, rfl, hbel⟩ := hrel
    by_cases hlt : k < L.length
    · obtain ⟨x, hx⟩ : ∃ x, L[k]? = some x := ⟨_, List.getElem?_eq_getElem hlt⟩
      obtain ⟨g, o, hAe, hg, hc⟩ := (HAs.out.up hbel).at_ eltT hx
      have k0 := hc 0 _ rfl
      simp only [Nat.mul_one, Nat.add_zero] at k0
      have hxm := List.mem_of_getElem? hx
      have hin := (H.out.ins x hxm).up hbel
      have e1 := hin.cell 1 _ rfl
      have e2 := hin.cell 2 _ rfl
      have hstep : nextI ((L.take (k + 1)).map OverE.dat) at_ most = nxS at_ x.t (nxS at_ x.f (nextI ((L.take k).map OverE.dat) at_ most)) := by
        rw [List.take_add_one, hx]
        unfold nextI
        rw [List.map_append, List.foldl_append]; rfl
      have HS := Lib.hid hstep
      have HB := Lib.hid hbel
      have hlt' : (k : Int) < L.length := by omega
      generalize nextI ((L.take k).map OverE.dat) at_ most = m at *
      obtain ⟨id, f, t, fr, re, xA, xc, xps, xg⟩ := x
      dsimp only at e1 e2 HS k0
      clear hc hx hxm hin hstep hbel
      subst hAe
      go_wp2_with fail
      go_quiet (fail)
      go_wp2_with fail
      go_loopw [2, 33] (fun vm vi wz => NxRel at_ m f t vm vi ∧ Below w.heap.size w wz) (fun _ vi _ => (2 - intOf vi).toNat)
      case atStart => exact ⟨.inl ⟨rfl, rfl⟩, have bb := HB.out; ⟨bb.os, bb.tape, bb.output, bb.size, bb.block⟩⟩
      case round =>
        obtain ⟨hr, hbz⟩ := hrel
        have HBZ := Lib.hid hbz
        clear hbz e1 e2 k0
        unfold NxRel at hr
        rcases hr with ⟨rfl, rfl⟩ | ⟨rfl, rfl⟩ | ⟨rfl, rfl⟩
        · obtain ⟨mm, hmm⟩ : ∃ mm, mm = m := ⟨_, rfl⟩
          rw [← hmm]
          have HM := Lib.hid hmm
          clear hmm
          have H1 : at_ < f → f < mm → nxS at_ f mm = f := fun a c => by unfold nxS; rw [if_pos ⟨a, c⟩]
          have H2 : ¬ at_ < f → nxS at_ f mm = mm := fun a => by unfold nxS; rw [if_neg (fun h => a h.1)]
          have H3 : ¬ f < mm → nxS at_ f mm = mm := fun a => by unfold nxS; rw [if_neg (fun h => a h.2)]
          have hix := idx2_0 f t
          by_cases p1 : at_ < f
          · by_cases p2 : f < mm
            · have d1 : decide (at_ < f) = true := decide_eq_true p1
              have d2 : decide (f < mm) = true := decide_eq_true p2
              have HE := Lib.hid (H1 p1 p2)
              clear H1 H2 H3 p1 p2
              go_wp2_with fail
              go_roundw
              case rel => exact ⟨.inr (.inl ⟨rfl, by first | rw [HE.out] | rw [← HM.out, HE.out]⟩), HBZ.out⟩
              case measure => simp [intOf]
            · have d1 : decide (at_ < f) = true := decide_eq_true p1
              have d2 : decide (f < mm) = false := decide_eq_false p2
              have HE := Lib.hid (H3 p2)
              clear H1 H2 H3 p1 p2
              go_wp2_with fail
              go_roundw
              case rel => exact ⟨.inr (.inl ⟨rfl, by first | rw [HE.out] | rw [← HM.out, HE.out]⟩), HBZ.out⟩
              case measure => simp [intOf]
          · have d1 : decide (at_ < f) = false := decide_eq_false p1
            have HE := Lib.hid (H2 p1)
            clear H1 H2 H3 p1
            go_wp2_with fail
            go_roundw
            case rel => exact ⟨.inr (.inl ⟨rfl, by first | rw [HE.out] | rw [← HM.out, HE.out]⟩), HBZ.out⟩
            case measure => simp [intOf]
        · obtain ⟨mm, hmm⟩ : ∃ mm, mm = nxS at_ f m := ⟨_, rfl⟩
          rw [← hmm]
          have HM := Lib.hid hmm
          clear hmm
          have H1 : at_ < t → t < mm → nxS at_ t mm = t := fun a c => by unfold nxS; rw [if_pos ⟨a, c⟩]
          have H2 : ¬ at_ < t → nxS at_ t mm = mm := fun a => by unfold nxS; rw [if_neg (fun h => a h.1)]
          have H3 : ¬ t < mm → nxS at_ t mm = mm := fun a => by unfold nxS; rw [if_neg (fun h => a h.2)]
          have hix := idx2_1 f t
          by_cases p1 : at_ < t
          · by_cases p2 : t < mm
            · have d1 : decide (at_ < t) = true := decide_eq_true p1
              have d2 : decide (t < mm) = true := decide_eq_true p2
              have HE := Lib.hid (H1 p1 p2)
              clear H1 H2 H3 p1 p2
              go_wp2_with fail
              go_roundw
              case rel => exact ⟨.inr (.inr ⟨rfl, by first | rw [HE.out] | rw [← HM.out, HE.out]⟩), HBZ.out⟩
              case measure => simp [intOf]
            · have d1 : decide (at_ < t) = true := decide_eq_true p1
              have d2 : decide (t < mm) = false := decide_eq_false p2
              have HE := Lib.hid (H3 p2)
              clear H1 H2 H3 p1 p2
              go_wp2_with fail
              go_roundw
              case rel => exact ⟨.inr (.inr ⟨rfl, by first | rw [HE.out] | rw [← HM.out, HE.out]⟩), HBZ.out⟩
              case measure => simp [intOf]
          · have d1 : decide (at_ < t) = false := decide_eq_false p1
            have HE := Lib.hid (H2 p1)
            clear H1 H2 H3 p1
            go_wp2_with fail
            go_roundw
            case rel => exact ⟨.inr (.inr ⟨rfl, by first | rw [HE.out] | rw [← HM.out, HE.out]⟩), HBZ.out⟩
            case measure => simp [intOf]
        · go_wp2_with fail
          go_roundw
          case rel => exact ⟨k + 1, by omega, by go_num, by rw [HS.out], HBZ.out⟩
          case measure => simp [intOf]; omega
    · obtain rfl : k = L.length := by omega
      have HB := Lib.hid hbel
      clear hbel
      rw [List.take_of_length_le (Nat.le_refl _)]
      go_wp2_with fail
      go_ret
      exact ⟨rfl, HB.out⟩
theorem s_next (h : OSt w b pr ev D nx S) (hw : WfD D nx) (at_ most : Int) : Calls Tryz.prog 18 #[.pointer (some ⟨b, 0, none⟩), .int .i64 at_, .int .i64 most] w fun e w' => e = .returned (.int .i64 (nextI D at_ most)) ∧ Below w.heap.size w w' := by
  obtain ⟨v, L, h1, rfl, h3⟩ := h
  obtain ⟨g1, g2, g3, g4⟩ := dat_good rfl hw
  exact onext h1 at_ most (by omega)
end
end Go.Proofs.YthjkdeocdhdkaaaGreat
