/- Overlays: find. -/
import Derived.Test.YthjkdeocdhdkaaaGreatOvB
namespace Go.Proofs.YthjkdeocdhdkaaaGreat
open Go.RowKit
set_option linter.unusedVariables false
set_option linter.unusedSimpArgs false
section
variable {w w' : World} {x : OverE} {L : List OverE} {b : Nat} {pr ev nx : Int} {v : Value} {A : Option Addr}
set_option maxHeartbeats 400000 in
theorem findC (h : OverIn w x) (id : Int) (q : Nat) (hq : w.cell? ⟨q, 0, none⟩ = some (.int .i64 id)) :
    Calls Tryz.prog 79 #[.pointer (some ⟨x.g, 0, none⟩), .pointer (some ⟨q, 0, none⟩)] w fun e w' => e = .returned (.bool (x.id == id)) ∧ Below w.heap.size w w' := by
  have c0 := h.cell 0 _ rfl
  clear h
  go_enter Tryz.func79, Tryz.ntmps79
  go_wp2
  go_quiet (fail)
  go_wp2
  go_ret
  exact ⟨rfl, have b := Below.refl w.heap.size w; ⟨b.os, b.tape, b.output, b.size, b.block⟩⟩
theorem enters_find : Enters 79 := enters_mk Tryz.func79 (by kernel_rfl) rfl
theorem idx_id (L : List OverE) (id : Int) : idxI (fun x => x.id == id) L = match L.findIdx? (fun x => x.id == id) with | some k => (k : Int) | none => -1 := rfl
set_option maxRecDepth 100000 in
set_option maxHeartbeats 1000000 in
theorem find_yes (h : OvsAt w b pr ev v L nx) {id : Int} {k : Nat} (hk : L.findIdx? (fun x => x.id == id) = some k) {x : OverE} (hx : L[k]? = some x) (hl : L.length ≤ 1000000) :
    Calls Tryz.prog 51 #[.pointer (some ⟨b, 0, none⟩), .int .i64 id] w fun e w' => e = .returned (.tuple #[.pointer (some ⟨x.g, 0, none⟩), .int .i64 0]) ∧ Below w.heap.size w w' := by
  obtain ⟨A, cp, rfl, hA1, hA2, hAs⟩ := h.own.shape eltT
  have hlt := h.blt
  have hkl := (List.getElem?_eq_some_iff.1 hx).1
  have HV := Lib.hid (ovalid (h.up (below1 w (.cells #[.int .i64 id] 3))))
  have HI := Lib.hid (index_any (caps := #[.pointer (some ⟨w.heap.size, 0, none⟩)]) (p := fun x => x.id == id) (w := w.alloc (.cells #[.int .i64 id] 3)) (L := L) (A := A) enters_find
    (Inv := fun _ w1 => Below (w.heap.size + 1) (w.alloc (.cells #[.int .i64 id] 3)) w1)
    (fun pre y post w1 hL hb => by
      have hy : y ∈ L := by rw [hL]; simp
      have hbw : Below w.heap.size w w1 := (below1 w _).trans (hb.mono (by omega))
      have hq : w1.cell? ⟨w.heap.size, 0, none⟩ = some (.int .i64 id) := (hb.cell (p := ⟨w.heap.size, 0, none⟩) (show w.heap.size < w.heap.size + 1 by omega)).trans (by simp)
      exact (findC ((h.ins y hy).up hbw) id w.heap.size hq).mono fun e w2 ⟨he, hb2⟩ => ⟨he, hb.trans (hb2.mono (by have := hb.size; simp at this; omega))⟩)
    (fun _ w1 hb => (hAs.up ((below1 w _).trans (hb.mono (by omega))))) (Below.refl _ _) cp hl)
  have H := Lib.hid h
  have HX := Lib.hid hx
  have HK := Lib.hid hk
  have HAs := Lib.hid hAs
  clear h hx hk hAs
  go_enter Tryz.func51, Tryz.ntmps51
  go_wp2_with fail
  refine HV.out.mono ?_
  rintro e w' ⟨rfl, rfl⟩
  have c2 := (H.out.up (below1 w (.cells #[.int .i64 id] 3))).cell 2 _ rfl
  go_wp2_with fail
  refine HI.out.mono ?_
  rintro e w1 ⟨rfl, hb⟩
  have hix : idxI (fun x => x.id == id) L = k := by unfold idxI; rw [HK.out]
  have hbw : Below w.heap.size w w1 := (below1 w _).trans (hb.mono (by omega))
  have c2' := (H.out.up hbw).cell 2 _ rfl
  obtain ⟨g, o, hAe, hg, hcg⟩ := (HAs.out.up hbw).at_ eltT HX.out
  have k0 := hcg 0 _ rfl
  simp only [Nat.mul_one, Nat.add_zero] at k0
  have hlt' : (k : Int) < L.length := by omega
  rw [hix]
  subst hAe
  have HB := Lib.hid hbw
  clear hb hbw hcg hix c2
  go_wp2_with fail
  go_ret2
  exact ⟨rfl, HB.out⟩
set_option maxRecDepth 100000 in
set_option maxHeartbeats 1000000 in
theorem find_no (h : OvsAt w b pr ev v L nx) {id : Int} (hk : L.findIdx? (fun x => x.id == id) = none) (hl : L.length ≤ 1000000) :
    Calls Tryz.prog 51 #[.pointer (some ⟨b, 0, none⟩), .int .i64 id] w fun e w' => e = .returned (.tuple #[.pointer none, .int .i64 8]) ∧ Below w.heap.size w w' := by
  obtain ⟨A, cp, rfl, hA1, hA2, hAs⟩ := h.own.shape eltT
  have hlt := h.blt
  have HV := Lib.hid (ovalid (h.up (below1 w (.cells #[.int .i64 id] 3))))
  have HI := Lib.hid (index_any (caps := #[.pointer (some ⟨w.heap.size, 0, none⟩)]) (p := fun x => x.id == id) (w := w.alloc (.cells #[.int .i64 id] 3)) (L := L) (A := A) enters_find
    (Inv := fun _ w1 => Below (w.heap.size + 1) (w.alloc (.cells #[.int .i64 id] 3)) w1)
    (fun pre y post w1 hL hb => by
      have hy : y ∈ L := by rw [hL]; simp
      have hbw : Below w.heap.size w w1 := (below1 w _).trans (hb.mono (by omega))
      have hq : w1.cell? ⟨w.heap.size, 0, none⟩ = some (.int .i64 id) := (hb.cell (p := ⟨w.heap.size, 0, none⟩) (show w.heap.size < w.heap.size + 1 by omega)).trans (by simp)
      exact (findC ((h.ins y hy).up hbw) id w.heap.size hq).mono fun e w2 ⟨he, hb2⟩ => ⟨he, hb.trans (hb2.mono (by have := hb.size; simp at this; omega))⟩)
    (fun _ w1 hb => (hAs.up ((below1 w _).trans (hb.mono (by omega))))) (Below.refl _ _) cp hl)
  have H := Lib.hid h
  have HK := Lib.hid hk
  clear h hk hAs
  go_enter Tryz.func51, Tryz.ntmps51
  go_wp2_with fail
  refine HV.out.mono ?_
  rintro e w' ⟨rfl, rfl⟩
  have c2 := (H.out.up (below1 w (.cells #[.int .i64 id] 3))).cell 2 _ rfl
  go_wp2_with fail
  refine HI.out.mono ?_
  rintro e w1 ⟨rfl, hb⟩
  have hix : idxI (fun x => x.id == id) L = -1 := by unfold idxI; rw [HK.out]
  have hbw : Below w.heap.size w w1 := (below1 w _).trans (hb.mono (by omega))
  rw [hix]
  have HB := Lib.hid hbw
  clear hb hbw hix c2
  go_wp2_with fail
  go_ret2
  exact ⟨rfl, HB.out⟩
end
end Go.Proofs.YthjkdeocdhdkaaaGreat
