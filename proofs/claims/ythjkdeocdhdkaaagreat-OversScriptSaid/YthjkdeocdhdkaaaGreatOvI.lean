/- Overlays: seek, value, Get; Add whole. -/
import Derived.Test.YthjkdeocdhdkaaaGreatOvH
namespace Go.Proofs.YthjkdeocdhdkaaaGreat
open Go.RowKit
set_option linter.unusedVariables false
set_option linter.unusedSimpArgs false
section
variable {w w' : World} {x : OverE} {L L' : List OverE} {b : Nat} {pr ev nx : Int} {v v' : Value} {A : Option Addr} {ps : List PropE}
theorem seek_anyD (hs : SortedP ps) (h : RSl encP w A ps) (nm : Int) (c : Nat) (hl : ps.length ≤ 1000000) :
    Calls Tryz.prog 57 #[.slice A ps.length c, .int .i64 nm] w fun e w' => e = .returned (.tuple #[.int .i64 (ixP ps nm), .bool (isP ps nm)]) ∧ BelD w.heap.size w w' := by
  have HB := Lib.hid (bsearch hs h nm c hl)
  clear hs h
  go_enter Tryz.func57, Tryz.ntmps57
  go_wp2_with fail
  refine HB.out.mono ?_
  rintro e w' ⟨rfl, hb⟩
  go_wp2_with fail
  go_ret2
  exact ⟨rfl, hb⟩
theorem seek_any (hs : SortedP ps) (h : RSl encP w A ps) (nm : Int) (c : Nat) (hl : ps.length ≤ 1000000) :
    Calls Tryz.prog 57 #[.slice A ps.length c, .int .i64 nm] w fun e w' => e = .returned (.tuple #[.int .i64 (ixP ps nm), .bool (isP ps nm)]) ∧ Below w.heap.size w w' :=
  (seek_anyD hs h nm c hl).mono fun e w' ⟨he, hb⟩ => ⟨he, hb.toBelow⟩
/-- A property's value: kind and number. -/
def valP (ps : List PropE) (nm : Int) : Option (Int × Int) := if isP ps nm then (ps[ixP ps nm]?).map (fun p => (p.kind, p.n)) else none
theorem isP_at {nm : Int} (h : isP ps nm = true) : ∃ k n, ps[ixP ps nm]? = some ⟨nm, k, n⟩ := by
  unfold isP at h
  cases hx : ps[ixP ps nm]? with
  | none => rw [hx] at h; cases h
  | some p => rw [hx] at h; obtain ⟨a, k, n⟩ := p; simp at h; subst h; exact ⟨k, n, rfl⟩
def wordV (o : Option (Int × Int)) : Value := match o with | some (k, n) => .tuple #[.agg #[.int .i64 k, .int .i64 n], .bool true] | none => .tuple #[.agg #[.int .i64 0, .int .i64 0], .bool false]
set_option maxRecDepth 100000 in
set_option maxHeartbeats 1000000 in
theorem value_anyD (hx : OverIn w x) (hs : SortedP x.ps) (nm : Int) (hl : x.ps.length ≤ 1000000) :
    Calls Tryz.prog 52 #[.pointer (some ⟨x.g, 0, none⟩), .int .i64 nm] w fun e w' => e = .returned (wordV (valP x.ps nm)) ∧ BelD w.heap.size w w' := by
  have hx1 := hx.up (below1 w (.cells #[.int .i64 0, .int .i64 0] 29))
  obtain ⟨A', c', hv, _, _, hr⟩ := hx1.own.shape eltP
  have hA : x.A = A' ∧ x.c = c' := by unfold OverE.pv at hv; cases hv; exact ⟨rfl, rfl⟩
  have HSK := Lib.hid (fun w1 (hb : BelD (w.alloc (.cells #[.int .i64 0, .int .i64 0] 29)).heap.size (w.alloc (.cells #[.int .i64 0, .int .i64 0] 29)) w1) => seek_anyD hs (hA.1 ▸ (hr.up hb.toBelow)) nm x.c hl)
  have c5 := hx1.cell 5 _ rfl
  have HX := Lib.hid hx1
  have HR := Lib.hid (show RSl encP (w.alloc (.cells #[.int .i64 0, .int .i64 0] 29)) x.A x.ps from hA.1 ▸ hr)
  clear hx hx1 hv hr hA
  unfold valP
  cases his : isP x.ps nm with
  | false =>
    rw [if_neg (by decide)]
    simp only [his] at HSK
    clear his
    go_enter Tryz.func52, Tryz.ntmps52
    go_wp2_with fail
    refine (HSK.out _ (BelD.refl _ _)).mono ?_
    rintro e w1 ⟨rfl, hb⟩
    have k0 := hb.cell (p := ⟨w.heap.size, 0, none⟩) (by simp)
    have k1 := hb.cell (p := ⟨w.heap.size, 1, none⟩) (by simp)
    have kf := fun o => hb.frozen (p := ⟨w.heap.size, o, none⟩) (by simp)
    simp at k0 k1 kf
    have HB := Lib.hid (up2D (below1D _ _) hb)
    clear hb
    go_wp2_with fail
    refine bodyPost_ret (v := .tuple #[.agg #[.int .i64 0, .int .i64 0], .bool false]) (by simp [results, Tryz.f52, go_sem, k0, k1]) rfl ⟨rfl, ?_⟩
    exact ((HB.out.setCell (p := ⟨w.heap.size, 0, none⟩) (Nat.le_refl _) _).setCell (p := ⟨w.heap.size, 1, none⟩) (Nat.le_refl _) _)
  | true =>
    rw [if_pos rfl]
    obtain ⟨k, n, hp⟩ := isP_at his
    rw [hp]
    simp only [his] at HSK
    have hil := (List.getElem?_eq_some_iff.1 hp).1
    have HP := Lib.hid hp
    generalize ixP x.ps nm = i at *
    clear his hp
    go_enter Tryz.func52, Tryz.ntmps52
    go_wp2_with fail
    refine (HSK.out _ (BelD.refl _ _)).mono ?_
    rintro e w1 ⟨rfl, hb⟩
    have k0 := hb.cell (p := ⟨w.heap.size, 0, none⟩) (by simp)
    have k1 := hb.cell (p := ⟨w.heap.size, 1, none⟩) (by simp)
    have kf := fun o => hb.frozen (p := ⟨w.heap.size, o, none⟩) (by simp)
    simp at k0 k1 kf
    have d5 := (HX.out.up hb.toBelow).cell 5 _ rfl
    obtain ⟨g, o, hAe, hg, hc⟩ := (HR.out.up hb.toBelow).at_ eltP HP.out
    have e1 := hc 1 _ rfl
    have e2 := hc 2 _ rfl
    simp only [← Nat.add_assoc, Nat.add_zero] at e1 e2
    rw [hAe] at d5
    have hil' : (i : Int) < x.ps.length := by omega
    have HB := Lib.hid (up2D (below1D _ _) hb)
    clear hb c5 hc hAe
    go_wp2_with fail
    refine bodyPost_ret (v := .tuple #[.agg #[.int .i64 k, .int .i64 n], .bool true]) (by simp [results, Tryz.f52, go_sem, k0, k1]) rfl ⟨rfl, ?_⟩
    exact ((HB.out.setCell (p := ⟨w.heap.size, 0, none⟩) (Nat.le_refl _) _).setCell (p := ⟨w.heap.size, 1, none⟩) (Nat.le_refl _) _)
theorem value_any (hx : OverIn w x) (hs : SortedP x.ps) (nm : Int) (hl : x.ps.length ≤ 1000000) :
    Calls Tryz.prog 52 #[.pointer (some ⟨x.g, 0, none⟩), .int .i64 nm] w fun e w' => e = .returned (wordV (valP x.ps nm)) ∧ Below w.heap.size w w' :=
  (value_anyD hx hs nm hl).mono fun e w' ⟨he, hb⟩ => ⟨he, hb.toBelow⟩
end
end Go.Proofs.YthjkdeocdhdkaaaGreat
