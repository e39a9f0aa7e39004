/- copyistkit.SameRows at what reads alike. -/
import Derived.Test.YtnpamchdflfboaaRwA
namespace Go.Proofs.Ytnpamchdflfboaa
open Go.RowKit
set_option linter.unusedVariables false
set_option linter.unusedSimpArgs false
section
variable {w w' : World} {A A' : Option Addr} {l l' : List RowE}
/-- Two rows that read alike. -/
structure SameE (e e' : RowE) : Prop where
  cs : e.cs = e'.cs
  ps : e.ps = e'.ps
  from_ : e.from_ = e'.from_
  to : e.to = e'.to
  cont : e.cont = e'.cont
structure SameL (l l' : List RowE) : Prop where
  len : l.length = l'.length
  at_ : ∀ (k : Nat) e e', l[k]? = some e → l'[k]? = some e' → SameE e e'
set_option maxRecDepth 100000 in
set_option maxHeartbeats 4000000 in
theorem sameR_true (c c' : Nat) (h : RowsAt w A l) (h' : RowsAt w A' l') (hs : SameL l l') (hl : l.length ≤ 1000000) (hb : ∀ e ∈ l, e.cs.length ≤ 1000000 ∧ e.ps.length ≤ 1000000) :
    Calls Try.prog 28 #[.slice A l.length c, .slice A' l'.length c'] w fun e w' => e = .returned (.bool true) ∧ Below w.heap.size w w' := by
  rw [← hs.len]
  have hne : ((l.length : Int) == (l.length : Int)) = true := by simp
  go_enter Try.func28, Try.ntmps28
  go_wp2
  clear hne
  go_loopw [5, 6] (fun vs vi wr => ∃ k : Nat, k ≤ l.length ∧ vi = .int .i64 k ∧ vs = .bool true ∧ Below w.heap.size w wr) (fun _ vi _ => l.length - (intOf vi).toNat)
  case atStart => exact ⟨0, by omega, rfl, rfl, Below.refl _ _⟩
  case round =>
    obtain ⟨k, hk, rfl, rfl, hbel⟩ := hrel
    by_cases hlt : k < l.length
    · obtain ⟨e, hx⟩ : ∃ x, l[k]? = some x := ⟨_, List.getElem?_eq_getElem hlt⟩
      obtain ⟨e', hx'⟩ : ∃ x, l'[k]? = some x := ⟨_, List.getElem?_eq_getElem (by rw [← hs.len]; exact hlt)⟩
      have hse := hs.at_ k e e' hx hx'
      have hI := (h.up hbel).2 e (List.mem_of_getElem? hx)
      have hI' := (h'.up hbel).2 e' (List.mem_of_getElem? hx')
      obtain ⟨hb1, hb2⟩ := hb e (List.mem_of_getElem? hx)
      obtain ⟨g, o, rfl, hg, hcg⟩ := (h.up hbel).1.at_ eltR hx
      obtain ⟨gp, op, rfl, hgp, hcgp⟩ := (h'.up hbel).1.at_ eltR hx'
      obtain ⟨e1, e2, e3, e4, e5⟩ := hse
      obtain ⟨A1, c1, cs, A2, c2, ps, fr, to, co⟩ := e
      obtain ⟨A1p, c1p, csp, A2p, c2p, psp, frp, top, cop⟩ := e'
      dsimp only at e1 e2 e3 e4 e5 hb1 hb2
      subst e1 e2 e3 e4 e5
      have C0 : ∀ y : UpW wr.heap.size wr, y.w.cell? ⟨g, o + k * 5, none⟩ = some (.slice A1 cs.length c1) := fun y => (y.up.cell (p := ⟨g, o + k * 5, none⟩) hg).trans (hcg 0 _ rfl)
      have C1 : ∀ y : UpW wr.heap.size wr, y.w.cell? ⟨g, o + k * 5 + 1, none⟩ = some (.slice A2 ps.length c2) := fun y => (y.up.cell (p := ⟨g, o + k * 5 + 1, none⟩) hg).trans (hcg 1 _ rfl)
      have C2 : ∀ y : UpW wr.heap.size wr, y.w.cell? ⟨g, o + k * 5 + 2, none⟩ = some (.int .i64 fr) := fun y => (y.up.cell (p := ⟨g, o + k * 5 + 2, none⟩) hg).trans (hcg 2 _ rfl)
      have C3 : ∀ y : UpW wr.heap.size wr, y.w.cell? ⟨g, o + k * 5 + 3, none⟩ = some (.int .i64 to) := fun y => (y.up.cell (p := ⟨g, o + k * 5 + 3, none⟩) hg).trans (hcg 3 _ rfl)
      have C4 : ∀ y : UpW wr.heap.size wr, y.w.cell? ⟨g, o + k * 5 + 4, none⟩ = some (.bool co) := fun y => (y.up.cell (p := ⟨g, o + k * 5 + 4, none⟩) hg).trans (hcg 4 _ rfl)
      have D0 : ∀ y : UpW wr.heap.size wr, y.w.cell? ⟨gp, op + k * 5, none⟩ = some (.slice A1p cs.length c1p) := fun y => (y.up.cell (p := ⟨gp, op + k * 5, none⟩) hgp).trans (hcgp 0 _ rfl)
      have D1 : ∀ y : UpW wr.heap.size wr, y.w.cell? ⟨gp, op + k * 5 + 1, none⟩ = some (.slice A2p ps.length c2p) := fun y => (y.up.cell (p := ⟨gp, op + k * 5 + 1, none⟩) hgp).trans (hcgp 1 _ rfl)
      have D2 : ∀ y : UpW wr.heap.size wr, y.w.cell? ⟨gp, op + k * 5 + 2, none⟩ = some (.int .i64 fr) := fun y => (y.up.cell (p := ⟨gp, op + k * 5 + 2, none⟩) hgp).trans (hcgp 2 _ rfl)
      have D3 : ∀ y : UpW wr.heap.size wr, y.w.cell? ⟨gp, op + k * 5 + 3, none⟩ = some (.int .i64 to) := fun y => (y.up.cell (p := ⟨gp, op + k * 5 + 3, none⟩) hgp).trans (hcgp 3 _ rfl)
      have D4 : ∀ y : UpW wr.heap.size wr, y.w.cell? ⟨gp, op + k * 5 + 4, none⟩ = some (.bool co) := fun y => (y.up.cell (p := ⟨gp, op + k * 5 + 4, none⟩) hgp).trans (hcgp 4 _ rfl)
      have hlt' : (k : Int) < l.length := by omega
      have HI1 := Lib.hid hI.i1
      have HI2 := Lib.hid hI.i2
      have HJ1 := Lib.hid hI'.i1
      have HJ2 := Lib.hid hI'.i2
      dsimp only at HI1 HI2 HJ1 HJ2
      clear hcg hcgp hx hx' hI hI'
      go_wp2_with fail
      refine wp_region_mix wr.heap.size 64 [([0, 1, 2, 3, 4, 5, 6, 7, 8, 9], 10), ([11, 12, 13, 14, 15, 16, 17, 18, 19, 20, 21], 22)] [23, 24, 25, 26, 27, 28, 29, 30, 31, 32, 33, 34, 35, 36, 37, 38, 39, 40, 41, 42, 43, 44, 45, 46, 47, 48, 49, 50, 51, 52, 53, 54, 55, 56, 57, 58, 59, 60, 61, 62, 63] (by kernel_rfl) (fun c d v a w h => by cases d <;> exact h) (by kernel_rfl) ?_
      simp only [wpMix, pk_nil, pk_cons, pushAt_zero, pushAt_succ, List.drop_succ_cons, List.drop_zero]
      repeat (go_big_quiet_step (fail))
      refine wpQuiet_nil ?_
      go_wp2_with fail
      have hbd : Below wr.heap.size wr wr.drew := (Below.refl _ _).drew
      refine (sameC_true c1 c1p (HI1.out.up hbd) (HJ1.out.up hbd) hb1).mono ?_
      rintro e w2 ⟨rfl, hb3⟩
      have hb4 : Below wr.heap.size wr w2 := hbd.trans hb3
      go_wp2_with fail
      refine thenQ_normal ⟨⟨⟨_, hb4⟩, rfl⟩, ?_⟩
      repeat (go_big_quiet_step (fail))
      refine wpQuiet_nil ?_
      go_wp2_with fail
      refine (sameI_true c2 c2p (HI2.out.up hb4) (HJ2.out.up hb4) hb2).mono ?_
      rintro e w3 ⟨rfl, hb5⟩
      have hb6 : Below wr.heap.size wr w3 := up2 hb4 hb5
      go_wp2_with fail
      refine thenQ_normal ⟨⟨⟨_, hb6⟩, rfl⟩, ?_⟩
      repeat (go_big_quiet_step (fail))
      refine wpQuiet_nil ?_
      go_wp2_with fail
      go_roundw
      case rel => exact ⟨k + 1, by omega, by go_num, by simp, up2 hbel hb6⟩
      case measure => simp [intOf]; omega
    · have hkn : k = l.length := by omega
      subst hkn
      go_wp2_with fail
      go_ret
      exact ⟨rfl, hbel⟩
end
end Go.Proofs.Ytnpamchdflfboaa
