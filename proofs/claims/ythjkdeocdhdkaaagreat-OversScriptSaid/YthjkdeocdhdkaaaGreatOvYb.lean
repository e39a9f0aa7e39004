/- Overlays: In. -/
import Derived.Test.YthjkdeocdhdkaaaGreatOvYa
namespace Go.Proofs.YthjkdeocdhdkaaaGreat
open Go.RowKit
set_option linter.unusedVariables false
set_option linter.unusedSimpArgs false
section
variable {w w' W : World} {x : OverE} {L L' M : List OverE} {b : Nat} {pr ev nx : Int} {v v' : Value} {A : Option Addr}
def inB (f t : Int) (x : OverD) : Bool := if x.f = x.t then decide (f ≤ x.f) && decide (x.f ≤ t) else (decide (f < t) && decide (x.f < t)) && decide (f < x.t)
def inI (pr : Int) (D : List OverD) (f t : Int) : List Int := (sortD pr (D.filter (inB f t))).map OverD.id
set_option maxHeartbeats 1000000 in
theorem inC_A1 (h : OverIn w x) (f t : Int) (q1 q2 : Nat) (hq1 : w.cell? ⟨q1, 0, none⟩ = some (.int .i64 f)) (hq2 : w.cell? ⟨q2, 0, none⟩ = some (.int .i64 t)) (h0 : x.f = x.t) (h1 : f ≤ x.f) :
    Calls Tryz.prog 50 #[.pointer (some ⟨x.g, 0, none⟩), .pointer (some ⟨q1, 0, none⟩), .pointer (some ⟨q2, 0, none⟩)] w fun e w' => e = .returned (.bool (inB f t x.dat)) ∧ Below w.heap.size w w' := by
  have hr : inB f t x.dat = decide (x.f ≤ t) := by unfold inB; rw [if_pos (show x.dat.f = x.dat.t from h0), show x.dat.f = x.f from rfl, decide_eq_true h1, Bool.true_and]
  rw [hr]
  have c1 := h.cell 1 _ rfl
  have c2 := h.cell 2 _ rfl
  have g0 : (x.f == x.t) = true := by simpa using h0
  have g1 : decide (f ≤ x.f) = true := decide_eq_true h1
  clear h hr h0 h1
  go_enter Tryz.func50, Tryz.ntmps50
  go_wp2
  go_quiet (fail)
  go_wp2
  go_quiet (fail)
  go_wp2
  go_ret
  exact ⟨rfl, have bb := Below.refl w.heap.size w; ⟨bb.os, bb.tape, bb.output, bb.size, bb.block⟩⟩
set_option maxHeartbeats 1000000 in
theorem inC_A2 (h : OverIn w x) (f t : Int) (q1 q2 : Nat) (hq1 : w.cell? ⟨q1, 0, none⟩ = some (.int .i64 f)) (hq2 : w.cell? ⟨q2, 0, none⟩ = some (.int .i64 t)) (h0 : x.f = x.t) (h1 : ¬ f ≤ x.f) :
    Calls Tryz.prog 50 #[.pointer (some ⟨x.g, 0, none⟩), .pointer (some ⟨q1, 0, none⟩), .pointer (some ⟨q2, 0, none⟩)] w fun e w' => e = .returned (.bool (inB f t x.dat)) ∧ Below w.heap.size w w' := by
  have hr : inB f t x.dat = false := by unfold inB; rw [if_pos (show x.dat.f = x.dat.t from h0), show x.dat.f = x.f from rfl, decide_eq_false h1, Bool.false_and]
  rw [hr]
  have c1 := h.cell 1 _ rfl
  have c2 := h.cell 2 _ rfl
  have g0 : (x.f == x.t) = true := by simpa using h0
  have g1 : decide (f ≤ x.f) = false := decide_eq_false h1
  clear h hr h0 h1
  go_enter Tryz.func50, Tryz.ntmps50
  go_wp2
  go_quiet (fail)
  go_wp2
  go_quiet (fail)
  go_wp2
  go_ret
  exact ⟨rfl, have bb := Below.refl w.heap.size w; ⟨bb.os, bb.tape, bb.output, bb.size, bb.block⟩⟩
set_option maxHeartbeats 1000000 in
theorem inC_B1 (h : OverIn w x) (f t : Int) (q1 q2 : Nat) (hq1 : w.cell? ⟨q1, 0, none⟩ = some (.int .i64 f)) (hq2 : w.cell? ⟨q2, 0, none⟩ = some (.int .i64 t)) (h0 : ¬ x.f = x.t) (h1 : f < t) (h2 : x.f < t) :
    Calls Tryz.prog 50 #[.pointer (some ⟨x.g, 0, none⟩), .pointer (some ⟨q1, 0, none⟩), .pointer (some ⟨q2, 0, none⟩)] w fun e w' => e = .returned (.bool (inB f t x.dat)) ∧ Below w.heap.size w w' := by
  have hr : inB f t x.dat = decide (f < x.t) := by unfold inB; rw [if_neg (show ¬ x.dat.f = x.dat.t from h0), show x.dat.f = x.f from rfl, show x.dat.t = x.t from rfl, decide_eq_true h1, decide_eq_true h2, Bool.true_and, Bool.true_and]
  rw [hr]
  have c1 := h.cell 1 _ rfl
  have c2 := h.cell 2 _ rfl
  have g0 : (x.f == x.t) = false := by simpa using h0
  have g1 : decide (f < t) = true := decide_eq_true h1
  have g2 : decide (x.f < t) = true := decide_eq_true h2
  clear h hr h0 h1 h2
  go_enter Tryz.func50, Tryz.ntmps50
  go_wp2
  go_quiet (fail)
  go_wp2
  go_quiet (fail)
  go_wp2
  go_ret
  exact ⟨rfl, have bb := Below.refl w.heap.size w; ⟨bb.os, bb.tape, bb.output, bb.size, bb.block⟩⟩
set_option maxHeartbeats 1000000 in
theorem inC_B2 (h : OverIn w x) (f t : Int) (q1 q2 : Nat) (hq1 : w.cell? ⟨q1, 0, none⟩ = some (.int .i64 f)) (hq2 : w.cell? ⟨q2, 0, none⟩ = some (.int .i64 t)) (h0 : ¬ x.f = x.t) (h1 : f < t) (h2 : ¬ x.f < t) :
    Calls Tryz.prog 50 #[.pointer (some ⟨x.g, 0, none⟩), .pointer (some ⟨q1, 0, none⟩), .pointer (some ⟨q2, 0, none⟩)] w fun e w' => e = .returned (.bool (inB f t x.dat)) ∧ Below w.heap.size w w' := by
  have hr : inB f t x.dat = false := by unfold inB; rw [if_neg (show ¬ x.dat.f = x.dat.t from h0), show x.dat.f = x.f from rfl, decide_eq_true h1, decide_eq_false h2, Bool.true_and, Bool.false_and]
  rw [hr]
  have c1 := h.cell 1 _ rfl
  have c2 := h.cell 2 _ rfl
  have g0 : (x.f == x.t) = false := by simpa using h0
  have g1 : decide (f < t) = true := decide_eq_true h1
  have g2 : decide (x.f < t) = false := decide_eq_false h2
  clear h hr h0 h1 h2
  go_enter Tryz.func50, Tryz.ntmps50
  go_wp2
  go_quiet (fail)
  go_wp2
  go_quiet (fail)
  go_wp2
  go_ret
  exact ⟨rfl, have bb := Below.refl w.heap.size w; ⟨bb.os, bb.tape, bb.output, bb.size, bb.block⟩⟩
set_option maxHeartbeats 1000000 in
theorem inC_B3 (h : OverIn w x) (f t : Int) (q1 q2 : Nat) (hq1 : w.cell? ⟨q1, 0, none⟩ = some (.int .i64 f)) (hq2 : w.cell? ⟨q2, 0, none⟩ = some (.int .i64 t)) (h0 : ¬ x.f = x.t) (h1 : ¬ f < t) :
    Calls Tryz.prog 50 #[.pointer (some ⟨x.g, 0, none⟩), .pointer (some ⟨q1, 0, none⟩), .pointer (some ⟨q2, 0, none⟩)] w fun e w' => e = .returned (.bool (inB f t x.dat)) ∧ Below w.heap.size w w' := by
  have hr : inB f t x.dat = false := by unfold inB; rw [if_neg (show ¬ x.dat.f = x.dat.t from h0), show x.dat.f = x.f from rfl, decide_eq_false h1, Bool.false_and, Bool.false_and]
  rw [hr]
  have c1 := h.cell 1 _ rfl
  have c2 := h.cell 2 _ rfl
  have g0 : (x.f == x.t) = false := by simpa using h0
  have g1 : decide (f < t) = false := decide_eq_false h1
  clear h hr h0 h1
  go_enter Tryz.func50, Tryz.ntmps50
  go_wp2
  go_quiet (fail)
  go_wp2
  go_quiet (fail)
  go_wp2
  go_ret
  exact ⟨rfl, have bb := Below.refl w.heap.size w; ⟨bb.os, bb.tape, bb.output, bb.size, bb.block⟩⟩
theorem inC (h : OverIn w x) (f t : Int) (q1 q2 : Nat) (hq1 : w.cell? ⟨q1, 0, none⟩ = some (.int .i64 f)) (hq2 : w.cell? ⟨q2, 0, none⟩ = some (.int .i64 t)) :
    Calls Tryz.prog 50 #[.pointer (some ⟨x.g, 0, none⟩), .pointer (some ⟨q1, 0, none⟩), .pointer (some ⟨q2, 0, none⟩)] w fun e w' => e = .returned (.bool (inB f t x.dat)) ∧ Below w.heap.size w w' := by
  by_cases h0 : x.f = x.t
  · by_cases h1 : f ≤ x.f
    · exact inC_A1 h f t q1 q2 hq1 hq2 h0 h1
    · exact inC_A2 h f t q1 q2 hq1 hq2 h0 h1
  · by_cases h1 : f < t
    · by_cases h2 : x.f < t
      · exact inC_B1 h f t q1 q2 hq1 hq2 h0 h1 h2
      · exact inC_B2 h f t q1 q2 hq1 hq2 h0 h1 h2
    · exact inC_B3 h f t q1 q2 hq1 hq2 h0 h1
theorem enters_in : Enters 50 := enters_mk Tryz.func50 (by kernel_rfl) rfl
set_option maxRecDepth 100000 in
set_option maxHeartbeats 1000000 in
theorem oin (h : OvsAt w b pr ev v L nx) (hs : ∀ x ∈ L, SortedP x.ps ∧ x.ps.length ≤ 64) (hid : (L.map OverE.id).Nodup) (hl : L.length ≤ 1000000) (f t : Int) :
    Calls Tryz.prog 16 #[.pointer (some ⟨b, 0, none⟩), .int .i64 f, .int .i64 t] w (IsPost w (inI pr (L.map OverE.dat) f t)) := by
  obtain ⟨wA, hwA⟩ : ∃ wA, wA = w.alloc (.cells #[.int .i64 f] 3) := ⟨_, rfl⟩
  obtain ⟨wB, hwB⟩ : ∃ wB, wB = wA.alloc (.cells #[.int .i64 t] 3) := ⟨_, rfl⟩
  have zA : wA.heap.size = w.heap.size + 1 := by rw [hwA]; simp
  have zB : wB.heap.size = w.heap.size + 2 := by rw [hwB]; simp [zA]
  have bA : Below w.heap.size w wA := by rw [hwA]; exact below1 _ _
  have bB : Below wA.heap.size wA wB := by rw [hwB]; exact below1 _ _
  have hB := up2 bA bB
  have k0 : wB.cell? ⟨w.heap.size, 0, none⟩ = some (.int .i64 f) := (bB.cell (p := ⟨w.heap.size, 0, none⟩) (by show w.heap.size < _; omega)).trans (by rw [hwA]; simp only [World.cell?, (MapKept.heap_alloc w _).1]; rfl)
  have k1 : wB.cell? ⟨w.heap.size + 1, 0, none⟩ = some (.int .i64 t) := by
    have := (MapKept.heap_alloc wA (.cells #[.int .i64 t] 3)).1
    rw [zA, ← hwB] at this
    simp only [World.cell?, this]; rfl
  have h1 := h.up hB
  have hask : Asks wB 50 #[.pointer (some ⟨w.heap.size, 0, none⟩), .pointer (some ⟨w.heap.size + 1, 0, none⟩)] (inB f t) L := fun x hx w1 hb =>
    inC ((h1.ins x hx).up hb) f t w.heap.size (w.heap.size + 1) ((hb.cell (p := ⟨w.heap.size, 0, none⟩) (by show w.heap.size < _; omega)).trans k0) ((hb.cell (p := ⟨w.heap.size + 1, 0, none⟩) (by show w.heap.size + 1 < _; omega)).trans k1)
  have HO := Lib.hid (order_any h1 hs hid hl enters_in hask)
  have H := Lib.hid h1
  have HB := Lib.hid hB
  have HE := Lib.hid (show wB = (w.alloc (.cells #[.int .i64 f] 3)).alloc (.cells #[.int .i64 t] 3) by rw [hwB, hwA])
  clear h h1 hs hid hask k0 k1 hB bA bB hwA hwB
  go_enter Tryz.func16, Tryz.ntmps16
  go_wp2_with fail
  rw [← HE.out]
  refine HO.out.mono ?_
  rintro e w2 ⟨vo, N, rfl, hN1, hN2, hN3, hN4⟩
  obtain ⟨A2, c2, rfl, _, _, hr⟩ := hN3.shape eltT
  have hNl : N.length ≤ L.length := by
    have h1 := congrArg List.length hN1
    simp only [sortD, List.length_map, List.length_mergeSort] at h1
    have h2 := List.length_filter_le (inB f t) (L.map OverE.dat)
    simp at h2; omega
  have HNU := Lib.hid (numbers_any hr (fun x hx => (H.out.ins x (hN2 x hx)).up hN4) c2 (by omega))
  go_wp2_with fail
  refine HNU.out.mono ?_
  rintro e w3 ⟨v3, rfl, ho3, hb3⟩
  go_wp2_with fail
  go_ret
  have hid : N.map OverE.id = inI pr (L.map OverE.dat) f t := by
    unfold inI; rw [← hN1, List.map_map]; rfl
  rw [hid] at ho3
  have hz1 := HB.out.size
  have hz2 := hN4.size
  exact ⟨v3, rfl, ho3.low (by omega), up2 (up2 HB.out hN4) hb3⟩
end
end Go.Proofs.YthjkdeocdhdkaaaGreat
