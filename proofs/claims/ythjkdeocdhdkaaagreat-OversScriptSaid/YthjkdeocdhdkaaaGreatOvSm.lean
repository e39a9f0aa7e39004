/- copyistref18.Same at two lists of overlays that say the same. -/
import Derived.Test.YthjkdeocdhdkaaaGreatOvL
import Derived.Laws.StructEq
namespace Go.Proofs.YthjkdeocdhdkaaaGreat
open Go.RowKit
set_option linter.unusedVariables false
set_option linter.unusedSimpArgs false
theorem neqP (a k n : Int) (w : World) : (binOp .neq 71 (.agg #[.int .i64 a, .int .i64 k, .int .i64 n]) (.agg #[.int .i64 a, .int .i64 k, .int .i64 n])).run Tryz.prog w = .ok (.bool false) w := by
  have u3 := Tryz.underlying3
  have u4 := Tryz.underlying29
  have hS : Tryz.prog.underlying 71 = some (.struct (Tryz.prog.fieldsOf 71)) := by kernel_rfl
  have hp : Tryz.prog.stoodInHeld 71 = false := by kernel_rfl
  have hp2 : Tryz.prog.stoodInHeld 29 = false := by kernel_rfl
  rw [run_neq_struct, show (10000 : Nat) = 9999 + 1 from rfl, run_equalIn_agg w 9999 71 _ _ hS hp]
  simp only [Program.fieldsOf, Tryz.underlying71]
  go_simp
theorem dat_at {L M : List OverE} (h : L.map OverE.dat = M.map OverE.dat) {k : Nat} {x y : OverE} (hx : L[k]? = some x) (hy : M[k]? = some y) : x.dat = y.dat := by
  have h1 : (L.map OverE.dat)[k]? = some x.dat := by rw [List.getElem?_map, hx]; rfl
  rw [h, List.getElem?_map, hy] at h1
  exact (Option.some.inj h1).symm
set_option maxRecDepth 100000 in
set_option maxHeartbeats 2000000 in
theorem same18_true {w : World} {A A' : Option Addr} {L M : List OverE} (c c' : Nat) (h : RSl encO w A L) (h' : RSl encO w A' M) (hp : ∀ y ∈ L, RSl encP w y.A y.ps) (hp' : ∀ y ∈ M, RSl encP w y.A y.ps)
    (hd : L.map OverE.dat = M.map OverE.dat) (hl : L.length ≤ 1000000) (hps : ∀ y ∈ L, y.ps.length ≤ 1000000) :
    Calls Tryz.prog 10 #[.slice A L.length c, .slice A' M.length c'] w fun e w' => e = .returned (.bool true) ∧ Below w.heap.size w w' := by
  have hlen : L.length = M.length := by have := congrArg List.length hd; simpa using this
  rw [← hlen]
  have H := Lib.hid h
  have H' := Lib.hid h'
  have HP := Lib.hid hp
  have HP' := Lib.hid hp'
  have HD := Lib.hid hd
  have HL := Lib.hid hlen
  have HPS := Lib.hid hps
  clear h h' hp hp' hd hlen hps
  have hne : ((L.length : Int) != (L.length : Int)) = false := by simp
  go_enter Tryz.func10, Tryz.ntmps10
  go_wp2_with fail
  clear hne
  go_loopw [5] (fun vi wr => ∃ k : Nat, k ≤ L.length ∧ vi = .int .i64 k ∧ Below w.heap.size w wr) (fun vi _ => L.length - (intOf vi).toNat)
  case atStart => exact ⟨0, by omega, rfl, Below.refl _ _⟩
  case round =>
    obtain ⟨k, hk, rfl, hbel⟩ := hrel
    by_cases hlt : k < L.length
    · obtain ⟨x, hx⟩ : ∃ x, L[k]? = some x := ⟨_, List.getElem?_eq_getElem hlt⟩
      obtain ⟨y, hy⟩ : ∃ y, M[k]? = some y := ⟨_, List.getElem?_eq_getElem (by have := HL.out; omega)⟩
      have hxm := HP.out x (List.mem_of_getElem? hx)
      have hym := HP'.out y (List.mem_of_getElem? hy)
      have hpl := HPS.out x (List.mem_of_getElem? hx)
      obtain ⟨g, o, hAe, hg, hc⟩ := (H.out.up hbel).at_ eltO hx
      obtain ⟨g', o', hAe', hg', hc'⟩ := (H'.out.up hbel).at_ eltO hy
      have hde := dat_at HD.out hx hy
      obtain ⟨id, f, t, fr, re, xA, xc, xps, xg⟩ := x
      obtain ⟨id', f', t', fr', re', yA, yc, yps, yg⟩ := y
      unfold OverE.dat at hde
      simp only [OverD.mk.injEq] at hde
      obtain ⟨rfl, rfl, rfl, rfl, rfl, rfl⟩ := hde
      have c0 := hc 0 _ rfl
      have c1 := hc 1 _ rfl
      have c2 := hc 2 _ rfl
      have c3 := hc 3 _ rfl
      have c4 := hc 4 _ rfl
      have c5 := hc 5 _ rfl
      have d0 := hc' 0 _ rfl
      have d1 := hc' 1 _ rfl
      have d2 := hc' 2 _ rfl
      have d3 := hc' 3 _ rfl
      have d4 := hc' 4 _ rfl
      have d5 := hc' 5 _ rfl
      simp only [← Nat.add_assoc, Nat.add_zero] at c0 c1 c2 c3 c4 c5 d0 d1 d2 d3 d4 d5
      dsimp only at hxm hym hpl
      have hlt' : (k : Int) < L.length := by omega
      have HX := Lib.hid hxm
      have HY := Lib.hid hym
      have HB := Lib.hid hbel
      have hz := hbel.size
      have hn1 : (id != id) = false := by simp
      have hn2 : (f != f) = false := by simp
      have hn3 : (t != t) = false := by simp
      have hn4 : (fr != fr) = false := by simp
      have hn5 : (re != re) = false := by simp
      have hn6 : ((xps.length : Int) != (xps.length : Int)) = false := by simp
      clear hc hc' hx hy hxm hym hbel
      subst hAe hAe'
      go_wp2_with fail
      go_region
      go_wp2_with fail
      · go_loopw [8] (fun vi wz => ∃ q : Nat, q ≤ xps.length ∧ vi = .int .i64 q ∧ Below wr.heap.size wr wz ∧ wz.cell? ⟨wr.heap.size, 5, none⟩ = some (.slice xA xps.length xc) ∧ wz.cell? ⟨wr.heap.size + 1, 5, none⟩ = some (.slice yA xps.length yc)) (fun vi _ => xps.length - (intOf vi).toNat)
        case atStart =>
          refine ⟨0, by omega, rfl, ?_, ?_, ?_⟩
          · exact (up2 (below1 _ _) (below1 _ _)).drew
          · simp
          · simp
        case round =>
          obtain ⟨q, hq, rfl, hbz, k5, e5⟩ := hrel
          rename_i wq
          by_cases hlq : q < xps.length
          · obtain ⟨⟨pn, pk, pm⟩, hpq⟩ : ∃ p, xps[q]? = some p := ⟨_, List.getElem?_eq_getElem hlq⟩
            obtain ⟨g1, o1, hA1, hg1, hc1⟩ := ((HX.out.up HB.out).up hbz).at_ eltP hpq
            obtain ⟨g2, o2, hA2, hg2, hc2⟩ := ((HY.out.up HB.out).up hbz).at_ eltP hpq
            have p0 := hc1 0 _ rfl
            have p1 := hc1 1 _ rfl
            have p2 := hc1 2 _ rfl
            have q0 := hc2 0 _ rfl
            have q1 := hc2 1 _ rfl
            have q2 := hc2 2 _ rfl
            simp only [← Nat.add_assoc, Nat.add_zero] at p0 p1 p2 q0 q1 q2
            have hn := neqP pn pk pm
            have hgd : Tryz.prog.eqGuardType Tryz.prog.depth 71 = false := by kernel_rfl
            have hlq' : (q : Int) < xps.length := by omega
            have HBZ := Lib.hid hbz
            clear hc1 hc2 hpq hbz
            subst hA1 hA2
            go_wp2_with fail
            go_quiet (fail)
            go_wp2_with fail
            go_roundw
            case rel => exact ⟨q + 1, by omega, by go_num, have b := HBZ.out; ⟨b.os, b.tape, b.output, b.size, b.block⟩, k5, e5⟩
            case measure => simp [intOf]; omega
          · obtain rfl : q = xps.length := by omega
            have HBZ := Lib.hid hbz
            clear hbz
            go_wp2_with fail
            go_roundw
            case rel => exact ⟨k + 1, by omega, by go_num, up2 HB.out HBZ.out⟩
            case measure => simp [intOf]; omega
      · go_loopw [8] (fun vi wz => ∃ q : Nat, q ≤ xps.length ∧ vi = .int .i64 q ∧ Below wr.heap.size wr wz ∧ wz.cell? ⟨wr.heap.size + 1, 5, none⟩ = some (.slice xA xps.length xc) ∧ wz.cell? ⟨wr.heap.size, 5, none⟩ = some (.slice yA xps.length yc)) (fun vi _ => xps.length - (intOf vi).toNat)
        case atStart =>
          refine ⟨0, by omega, rfl, ?_, ?_, ?_⟩
          · exact (up2 (below1 _ _) (below1 _ _)).drew
          · simp
          · simp
        case round =>
          obtain ⟨q, hq, rfl, hbz, k5, e5⟩ := hrel
          rename_i wq
          by_cases hlq : q < xps.length
          · obtain ⟨⟨pn, pk, pm⟩, hpq⟩ : ∃ p, xps[q]? = some p := ⟨_, List.getElem?_eq_getElem hlq⟩
            obtain ⟨g1, o1, hA1, hg1, hc1⟩ := ((HX.out.up HB.out).up hbz).at_ eltP hpq
            obtain ⟨g2, o2, hA2, hg2, hc2⟩ := ((HY.out.up HB.out).up hbz).at_ eltP hpq
            have p0 := hc1 0 _ rfl
            have p1 := hc1 1 _ rfl
            have p2 := hc1 2 _ rfl
            have q0 := hc2 0 _ rfl
            have q1 := hc2 1 _ rfl
            have q2 := hc2 2 _ rfl
            simp only [← Nat.add_assoc, Nat.add_zero] at p0 p1 p2 q0 q1 q2
            have hn := neqP pn pk pm
            have hgd : Tryz.prog.eqGuardType Tryz.prog.depth 71 = false := by kernel_rfl
            have hlq' : (q : Int) < xps.length := by omega
            have HBZ := Lib.hid hbz
            clear hc1 hc2 hpq hbz
            subst hA1 hA2
            go_wp2_with fail
            go_quiet (fail)
            go_wp2_with fail
            go_roundw
            case rel => exact ⟨q + 1, by omega, by go_num, have b := HBZ.out; ⟨b.os, b.tape, b.output, b.size, b.block⟩, k5, e5⟩
            case measure => simp [intOf]; omega
          · obtain rfl : q = xps.length := by omega
            have HBZ := Lib.hid hbz
            clear hbz
            go_wp2_with fail
            go_roundw
            case rel => exact ⟨k + 1, by omega, by go_num, up2 HB.out HBZ.out⟩
            case measure => simp [intOf]; omega
    · obtain rfl : k = L.length := by omega
      have HB := Lib.hid hbel
      clear hbel
      go_wp2_with fail
      go_ret
      exact ⟨rfl, HB.out⟩
end Go.Proofs.YthjkdeocdhdkaaaGreat
