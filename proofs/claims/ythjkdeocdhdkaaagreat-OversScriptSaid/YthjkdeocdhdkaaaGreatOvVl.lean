/- Overlays: Value. -/
import Derived.Test.YthjkdeocdhdkaaaGreatOvBw
namespace Go.Proofs.YthjkdeocdhdkaaaGreat
open Go.RowKit Go.Shelf
set_option linter.unusedVariables false
set_option linter.unusedSimpArgs false
attribute [local go_sem] Oper.semAt_some
section
variable {w w' W : World} {x : OverE} {D : List OverD} {L L' M : List OverE} {b : Nat} {pr ev nx : Int} {v v' : Value} {A : Option Addr} {S : Nat → Prop}
theorem cell_kind {W : World} {B : Nat} {cs : Array Value} {t : TypeId} (h : W.heap[B]? = some (.cells cs t (0, 0))) (j : Nat) (u : Value) (hu : cs[j]? = some u) : W.cell? ⟨B, j, none⟩ = some u := by
  simp only [World.cell?, h]; exact hu
theorem fz_kind {W : World} {B : Nat} {cs : Array Value} {t : TypeId} (h : W.heap[B]? = some (.cells cs t (0, 0))) (j : Nat) : W.frozen? ⟨B, j, none⟩ = false := by
  simp only [World.frozen?, h]; rfl
theorem four_blocks (w : World) (a b c d : Obj) : ((((w.alloc a).alloc b).alloc c).alloc d).heap[w.heap.size]? = some a ∧ ((((w.alloc a).alloc b).alloc c).alloc d).heap[w.heap.size + 1]? = some b ∧
    ((((w.alloc a).alloc b).alloc c).alloc d).heap[w.heap.size + 1 + 1]? = some c ∧ ((((w.alloc a).alloc b).alloc c).alloc d).heap[w.heap.size + 1 + 1 + 1]? = some d := by
  have a1 := World.alloc_heap_new w a
  have b1 := World.alloc_heap_new (w.alloc a) b
  have c1 := World.alloc_heap_new ((w.alloc a).alloc b) c
  have d1 := World.alloc_heap_new (((w.alloc a).alloc b).alloc c) d
  simp only [World.size_alloc] at a1 b1 c1 d1
  refine ⟨?_, ?_, ?_, d1⟩
  · exact (Below.heap_alloc _ _ _ (by simp <;> omega)).trans ((Below.heap_alloc _ _ _ (by simp <;> omega)).trans ((Below.heap_alloc _ _ _ (by simp)).trans a1))
  · exact (Below.heap_alloc _ _ _ (by simp <;> omega)).trans ((Below.heap_alloc _ _ _ (by simp)).trans b1)
  · exact (Below.heap_alloc _ _ _ (by simp)).trans c1
theorem keepsOthers_below {w w' : World} (h : Below w.heap.size w w') : KeepsOthers w w' :=
  ⟨h.size, fun k o hk _ => (h.block k (Array.getElem?_eq_some_iff.1 hk).1).trans hk⟩
def set4 (W : World) (s : Nat) (k n i : Int) (r : Bool) : World := (((W.setCell ⟨s + 1, 0, none⟩ (.int .i64 k)).setCell ⟨s + 1, 1, none⟩ (.int .i64 n)).setCell ⟨s + 1 + 1, 0, none⟩ (.int .i64 i)).setCell ⟨s + 1 + 1 + 1, 0, none⟩ (.bool r)
theorem four_set {W : World} {s : Nat} {x0 x1 y z : Value} {T1 T2 T3 : TypeId} (b1 : W.heap[s + 1]? = some (.cells #[x0, x1] T1 (0, 0))) (b2 : W.heap[s + 1 + 1]? = some (.cells #[y] T2 (0, 0))) (b3 : W.heap[s + 1 + 1 + 1]? = some (.cells #[z] T3 (0, 0))) (k n i : Int) (r : Bool) :
    (set4 W s k n i r).heap[s + 1]? = some (.cells #[.int .i64 k, .int .i64 n] T1 (0, 0)) ∧ (set4 W s k n i r).heap[s + 1 + 1]? = some (.cells #[.int .i64 i] T2 (0, 0)) ∧ (set4 W s k n i r).heap[s + 1 + 1 + 1]? = some (.cells #[.bool r] T3 (0, 0)) ∧ KeepsOthers W (set4 W s k n i r) := by
  have h1 := heap_setCell_same W (s + 1) 0 _ _ (.int .i64 k) b1
  have h2 := heap_setCell_same _ (s + 1) 1 _ _ (.int .i64 n) h1
  have c2 : ((W.setCell ⟨s + 1, 0, none⟩ (.int .i64 k)).setCell ⟨s + 1, 1, none⟩ (.int .i64 n)).heap[s + 1 + 1]? = some (.cells #[y] T2 (0, 0)) := by
    rw [Below.heap_setCell _ _ _ _ (by show s + 1 + 1 ≠ s + 1; omega), Below.heap_setCell _ _ _ _ (by show s + 1 + 1 ≠ s + 1; omega)]; exact b2
  have h3 := heap_setCell_same _ (s + 1 + 1) 0 _ _ (.int .i64 i) c2
  have c3 : (((W.setCell ⟨s + 1, 0, none⟩ (.int .i64 k)).setCell ⟨s + 1, 1, none⟩ (.int .i64 n)).setCell ⟨s + 1 + 1, 0, none⟩ (.int .i64 i)).heap[s + 1 + 1 + 1]? = some (.cells #[z] T3 (0, 0)) := by
    rw [Below.heap_setCell _ _ _ _ (by show s + 1 + 1 + 1 ≠ s + 1 + 1; omega), Below.heap_setCell _ _ _ _ (by show s + 1 + 1 + 1 ≠ s + 1; omega), Below.heap_setCell _ _ _ _ (by show s + 1 + 1 + 1 ≠ s + 1; omega)]; exact b3
  have h4 := heap_setCell_same _ (s + 1 + 1 + 1) 0 _ _ (.bool r) c3
  refine ⟨?_, ?_, h4, ?_⟩
  · unfold set4
    rw [Below.heap_setCell _ _ _ _ (by show s + 1 ≠ s + 1 + 1 + 1; omega), Below.heap_setCell _ _ _ _ (by show s + 1 ≠ s + 1 + 1; omega)]; exact h2
  · unfold set4
    rw [Below.heap_setCell _ _ _ _ (by show s + 1 + 1 ≠ s + 1 + 1 + 1; omega)]; exact h3
  · exact (((KeepsOthers.setCell _ _ _).trans (KeepsOthers.setCell _ _ _)).trans (KeepsOthers.setCell _ _ _)).trans (KeepsOthers.setCell _ _ _)
theorem below_set4 {w W : World} {s : Nat} (h : Below s w W) (k n i : Int) (r : Bool) : Below s w (set4 W s k n i r) :=
  (((h.setCell (p := ⟨s + 1, 0, none⟩) (by show s ≤ s + 1; omega) _).setCell (p := ⟨s + 1, 1, none⟩) (by show s ≤ s + 1; omega) _).setCell (p := ⟨s + 1 + 1, 0, none⟩) (by show s ≤ s + 1 + 1; omega) _).setCell (p := ⟨s + 1 + 1 + 1, 0, none⟩) (by show s ≤ s + 1 + 1 + 1; omega) _
/-- The property that wins: the last overlay in order that has it. -/
def winL (l : List OverD) (nm : Int) : Value := match l.reverse.find? (fun x => (valP x.ps nm).isSome) with
  | some x => (match valP x.ps nm with
    | some (k, n) => .tuple #[.agg #[.int .i64 k, .int .i64 n], .int .i64 x.id, .bool true]
    | none => .tuple #[.agg #[.int .i64 0, .int .i64 0], .int .i64 0, .bool false])
  | none => .tuple #[.agg #[.int .i64 0, .int .i64 0], .int .i64 0, .bool false]
theorem win_none {M : List OverE} {nm : Int} {ys : List (Nat × InL M)} (h : ∀ y ∈ ys, valP y.2.1.ps nm = none) (hs : seen ys = M.reverse) : winL (M.map OverE.dat) nm = .tuple #[.agg #[.int .i64 0, .int .i64 0], .int .i64 0, .bool false] := by
  unfold winL
  rw [← List.map_reverse, ← hs, List.find?_eq_none.2]
  intro x hx
  simp only [seen, List.map_map, List.mem_map] at hx
  obtain ⟨y, hy, rfl⟩ := hx
  show ¬ (valP y.2.1.ps nm).isSome = true
  rw [h y hy]; simp
theorem win_some {M : List OverE} {nm k n : Int} {q : List (Nat × InL M)} {x : Nat × InL M} (h : ∀ y ∈ q, valP y.2.1.ps nm = none) (hx : valP x.2.1.ps nm = some (k, n)) (hs : seen (q ++ [x]) <+: M.reverse) :
    winL (M.map OverE.dat) nm = .tuple #[.agg #[.int .i64 k, .int .i64 n], .int .i64 x.2.1.id, .bool true] := by
  obtain ⟨r, hr⟩ := hs
  unfold winL
  rw [← List.map_reverse, ← hr]
  have : ((seen (q ++ [x]) ++ r).map OverE.dat).find? (fun x => (valP x.ps nm).isSome) = some x.2.1.dat := by
    simp only [seen, List.map_append, List.map_cons, List.map_nil, List.append_assoc, List.find?_append]
    rw [List.find?_eq_none.2, Option.none_or]
    · simp [show (OverE.dat x.2.1).ps = x.2.1.ps from rfl, hx]
    · intro y hy
      simp only [List.mem_map] at hy
      obtain ⟨z, ⟨u, hu, rfl⟩, rfl⟩ := hy
      show ¬ (valP u.2.1.ps nm).isSome = true
      rw [h u hu]; simp
  rw [this]
  simp [show (OverE.dat x.2.1).ps = x.2.1.ps from rfl, hx, OverE.dat]
set_option maxRecDepth 100000 in
set_option maxHeartbeats 4000000 in
theorem ovalue_in (h : OvsAt w b pr ev v L nx) (hs : ∀ x ∈ L, SortedP x.ps ∧ x.ps.length ≤ 64) (hid : (L.map OverE.id).Nodup) (hl : L.length ≤ 1000000) (at_ nm : Int) :
    CallsIn Fence.wide 6 Tryz.prog 24 #[.pointer (some ⟨b, 0, none⟩), .int .i64 at_, .int .i64 nm] w fun e w' => e = .returned (winL (sortD pr ((L.map OverE.dat).filter (covB at_))) nm) ∧ Below w.heap.size w w' := by
  obtain ⟨W4, hW4⟩ : ∃ W4, W4 = (((w.alloc (.cells #[.int .i64 nm] 3)).alloc (.cells #[.int .i64 0, .int .i64 0] 29)).alloc (.cells #[.int .i64 0] 3)).alloc (.cells #[.bool false] 4) := ⟨_, rfl⟩
  have hb4 : Below w.heap.size w W4 := by
    rw [hW4]; exact (((((Below.refl _ w).alloc (Nat.le_refl _) _).alloc (by simp) _).alloc (by simp <;> omega) _).alloc (by simp <;> omega) _)
  have hz4 : W4.heap.size = w.heap.size + 4 := by rw [hW4]; simp
  obtain ⟨m0, m1, m2, m3⟩ := four_blocks w (.cells #[.int .i64 nm] 3) (.cells #[.int .i64 0, .int .i64 0] 29) (.cells #[.int .i64 0] 3) (.cells #[.bool false] 4)
  rw [← hW4] at m0 m1 m2 m3
  have hB := below1 W4 (.cells #[.int .i64 at_] 3)
  have k0 : (W4.alloc (.cells #[.int .i64 at_] 3)).cell? ⟨W4.heap.size, 0, none⟩ = some (.int .i64 at_) := by simp only [World.cell?, (MapKept.heap_alloc W4 _).1]; rfl
  have h1 := (h.up hb4).up hB
  have hask : Asks (W4.alloc (.cells #[.int .i64 at_] 3)) 76 #[.pointer (some ⟨W4.heap.size, 0, none⟩)] (covB at_) L := fun x hx w1 hb => by
    refine (coversC ((h1.ins x hx).up hb) at_ W4.heap.size ((hb.cell (p := ⟨W4.heap.size, 0, none⟩) (by simp)).trans k0)).mono ?_
    rintro e w' ⟨rfl, n, rfl⟩
    have bb := Below.refl w1.heap.size w1
    exact ⟨rfl, bb.os, bb.tape, bb.output, bb.size, bb.block⟩
  have HO := Lib.hid (order_any h1 hs hid hl enters_covers hask)
  have HC := Lib.hid (covers_any at_ W4)
  have H := Lib.hid h1
  have HB4 := Lib.hid hb4
  have HBA := Lib.hid (hb4.trans (hB.mono hb4.size))
  have HZ := Lib.hid hz4
  have HS := Lib.hid hs
  have HG := Lib.hid (fun (x : OverE) (hx : x ∈ L) => h.lt (foot_x (b := b) (v := v) hx (foot_g x)))
  have M0 := Lib.hid m0
  have M1 := Lib.hid m1
  have M2 := Lib.hid m2
  have M3 := Lib.hid m3
  rw [hW4] at HC
  have HW := Lib.hid hW4
  clear h h1 hs hid hask k0 hB hb4 hz4 m0 m1 m2 m3 hW4
  refine callsIn_of_wp_marks Tryz.func24 rfl trivial ?_ rfl
  simp only [Tryz.ntmps24, List.size_toArray, List.length_cons, List.length_nil, Nat.reduceAdd, Nat.reduceSub, Array.replicate_succ, Array.replicate_zero, List.push_toArray, List.append_toArray, List.nil_append, List.cons_append]
  gi_wp2_with fail
  refine ⟨trivial, (callsIn_wide.2 HC.out).mono ?_⟩
  rw [← HW.out]
  rintro e w1 ⟨rfl, rfl⟩
  clear HC HW
  gi_wp2_with fail
  refine ⟨trivial, (callsIn_wide.2 HO.out).mono ?_⟩
  rintro e w5 ⟨vo, N, rfl, hN1, hN2, hN3, hN4⟩
  obtain ⟨A2, c2, rfl, _, _, hr⟩ := hN3.shape eltT
  have hNl : N.length ≤ 1000000 := by
    have h1 := congrArg List.length hN1
    simp only [sortD, List.length_map, List.length_mergeSort] at h1
    have h2 := List.length_filter_le (covB at_) (L.map OverE.dat)
    simp at h2; omega
  have hb5 : Below w.heap.size w w5 := HBA.out.trans (hN4.mono (by have := HBA.out.size; exact this))
  have hz5 := hN4.size
  have hz6 : (W4.alloc (.cells #[.int .i64 at_] 3)).heap.size = w.heap.size + 5 := by simp [HZ.out]
  have hzz : w.heap.size + 5 ≤ w5.heap.size := by omega
  have hbk : ∀ j, j < w.heap.size + 4 → w5.heap[j]? = W4.heap[j]? := fun j hj => (hN4.block j (by omega)).trans ((below1 W4 (.cells #[.int .i64 at_] 3)).block j (by have := HZ.out; omega))
  have n0 := (hbk w.heap.size (by omega)).trans M0.out
  have n1 := (hbk (w.heap.size + 1) (by omega)).trans M1.out
  have n2 := (hbk (w.heap.size + 1 + 1) (by omega)).trans M2.out
  have n3 := (hbk (w.heap.size + 1 + 1 + 1) (by omega)).trans M3.out
  have hin5 : ∀ x ∈ N, OverIn w5 x ∧ x.g < w.heap.size ∧ SortedP x.ps ∧ x.ps.length ≤ 64 := fun x hx => ⟨(H.out.ins x (hN2 x hx)).up hN4, HG.out x (hN2 x hx), HS.out x (hN2 x hx)⟩
  have HN1 := Lib.hid hN1
  have HR := Lib.hid hr
  have HIN := Lib.hid hin5
  have HB5 := Lib.hid hb5
  have N0 := Lib.hid n0
  have N1 := Lib.hid n1
  have N2 := Lib.hid n2
  have N3 := Lib.hid n3
  clear HO H HB4 HBA HZ HS M0 M1 M2 M3 hN1 hN2 hN3 hN4 hr hin5 hb5 hbk n0 n1 n2 n3 hz5 hz6
  gi_wp2_with fail
  refine ⟨trivial, (callsIn_wide.2 (backward_any A2 N.length c2 w5)).mono ?_⟩
  rintro e w1 ⟨rfl, rfl⟩
  gi_wp2_with fail
  have hB0 := below1 w5 (.cells #[.slice A2 N.length c2] 61)
  have k8 : (w5.alloc (.cells #[.slice A2 N.length c2] 61)).cell? ⟨w5.heap.size, 0, none⟩ = some (.slice A2 N.length c2) := by simp only [World.cell?, (MapKept.heap_alloc w5 _).1]; rfl
  refine wpIn_rangeFunc_ownF rfl (by omega) (gf := 80) (lb := #[.pointer (some ⟨w5.heap.size, 0, none⟩)]) rfl trivial (enters_of Tryz.func80 (by kernel_rfl) rfl)
    (back_stops 5 (w5.heap.size + 1) w5.heap.size N A2 c2 hNl (by omega) _ (by simp) k8 (fun W' hbW => HR.out.up (hB0.trans (hbW.mono (by omega)))))
    belowK_t (belowK_b (by simp)) (Below.refl _ _) (fun _ => rfl)
    (fun pre W => (∀ y ∈ pre, valP y.2.1.ps nm = none) ∧ Below (w5.heap.size + 1) (w5.alloc (.cells #[.slice A2 N.length c2] 61)) W)
    (fun c pre W => (c = .ret ∧ ∃ q x k n, pre = q ++ [x] ∧ (∀ y ∈ q, valP y.2.1.ps nm = none) ∧ valP x.2.1.ps nm = some (k, n) ∧ W.cell? ⟨w.heap.size + 1, 0, none⟩ = some (.int .i64 k) ∧ W.cell? ⟨w.heap.size + 1, 1, none⟩ = some (.int .i64 n) ∧ W.cell? ⟨w.heap.size + 1 + 1, 0, none⟩ = some (.int .i64 x.2.1.id) ∧ W.cell? ⟨w.heap.size + 1 + 1 + 1, 0, none⟩ = some (.bool true)) ∧ Below w.heap.size w W)
    (OwnFrom.and (Own.from (fun s A B row hs hg hr => hs) _) (ownFrom_below (by simp) (by simp)))
    (fun c => OwnFrom.and (Own.from (fun s A B row hs hg hr => by
      obtain ⟨e, q, x, k, n, hq, hn, hx, g1, g2, g3, g4⟩ := hs
      exact ⟨e, q, x, k, n, hq, hn, hx, cell_kept g1 hg hr, cell_kept g2 hg hr, cell_kept g3 hg hr, cell_kept g4 hg hr⟩) _) (ownFrom_below (Nat.le_refl _) (by simp; omega)))
    ⟨by simp, Below.refl _ _⟩
    ?fr ?assign ?body ?done ?stop
  case assign =>
    intro l x W K hK
    gi_wp2
    exact hK
  case body =>
    rintro l pre x W ⟨hp, hBx⟩ _
    have hB : Below w5.heap.size w5 W := hB0.trans (hBx.mono (by omega))
    have hzW := hBx.size
    rw [World.size_alloc] at hzW
    have HBX := Lib.hid hBx
    clear hBx
    clear hB0 k8
    have HPr := Lib.hid hp
    obtain ⟨xi, xo, xm⟩ := x
    obtain ⟨i1, ig, i2, i3⟩ := HIN.out xo xm
    have hbk : ∀ j, j < w5.heap.size → W.heap[j]? = w5.heap[j]? := fun j hj => hB.block j hj
    have c0 := cell_kind ((hbk w.heap.size (by omega)).trans N0.out) 0 _ rfl
    have HV := Lib.hid (value_any (i1.up hB) i2 nm (by omega))
    have HI1 := Lib.hid (i1.up hB)
    have HB := Lib.hid hB
    clear hp hbk hB i2 i3
    cases hv : valP xo.ps nm with
    | none =>
      rw [hv, show wordV (none : Option (Int × Int)) = .tuple #[.agg #[.int .i64 0, .int .i64 0], .bool false] from rfl] at HV
      have HVN := Lib.hid hv
      clear hv
      gi_wp2_with fail
      refine ⟨trivial, (CallsIn.inRound l (callsIn_wide.2 HV.out)).mono ?_⟩
      rintro e w2 ⟨rfl, hb2⟩
      have HB2 := Lib.hid hb2
      clear hb2
      gi_wp2
      have hb3 : Below W.heap.size W (w2.alloc (.cells #[.int .i64 0, .int .i64 0] 29)) := HB2.out.alloc HB2.out.size _
      exact ⟨keepsOthers_below hb3, hb3.mono hzW, fun y hy => (List.mem_append.1 hy).elim (HPr.out y) (fun e => by rw [List.mem_singleton.1 e]; exact HVN.out), HBX.out.trans (hb3.mono hzW)⟩
    | some kn =>
      obtain ⟨k, n⟩ := kn
      rw [hv, show wordV (some (k, n)) = .tuple #[.agg #[.int .i64 k, .int .i64 n], .bool true] from rfl] at HV
      have HVN := Lib.hid hv
      clear hv
      gi_wp2_with fail
      refine ⟨trivial, (CallsIn.inRound l (callsIn_wide.2 HV.out)).mono ?_⟩
      rintro e w2 ⟨rfl, hb2⟩
      have hx2 := HI1.out.up hb2
      have x0 := hx2.cell 0 _ rfl
      have hxg := hx2.lt (foot_g xo)
      have hz2 := hb2.size
      have hb52 : Below w5.heap.size w5 w2 := HB.out.trans (hb2.mono (by omega))
      have hbk : ∀ j, j < w5.heap.size → w2.heap[j]? = w5.heap[j]? := fun j hj => hb52.block j hj
      have b1 := (hbk (w.heap.size + 1) (by omega)).trans N1.out
      have b2 := (hbk (w.heap.size + 1 + 1) (by omega)).trans N2.out
      have b3 := (hbk (w.heap.size + 1 + 1 + 1) (by omega)).trans N3.out
      have e60 := cell_kind b1 0 _ rfl
      have e61 := cell_kind b1 1 _ rfl
      have e7 := cell_kind b2 0 _ rfl
      have e8 := cell_kind b3 0 _ rfl
      have f60 := fz_kind b1 0
      have f61 := fz_kind b1 1
      have f7 := fz_kind b2 0
      have f8 := fz_kind b3 0
      have l1 : w.heap.size + 1 < w2.heap.size := by omega
      have l2 : w.heap.size + 1 + 1 < w2.heap.size := by omega
      have l3 : w.heap.size + 1 + 1 + 1 < w2.heap.size := by omega
      have B1 := Lib.hid b1
      have B2 := Lib.hid b2
      have B3 := Lib.hid b3
      have g1 : ¬ xo.g = w.heap.size + 1 := by omega
      have g2 : ¬ xo.g = w.heap.size + 1 + 1 := by omega
      have g3 : ¬ xo.g = w.heap.size + 1 + 1 + 1 := by omega
      have g4 : ¬ w.heap.size + 1 = xo.g := by omega
      have HB2 := Lib.hid hb2
      have HB52 := Lib.hid hb52
      clear hb2 hbk b1 b2 b3 hx2 hb52
      gi_wp2_with fail
      have hX : KeepsOthers W ((set4 w2 w.heap.size k n xo.id true).alloc (.cells #[.int .i64 k, .int .i64 n] 29)).drew ∧ ((set4 w2 w.heap.size k n xo.id true).alloc (.cells #[.int .i64 k, .int .i64 n] 29)).drew.cell? ⟨w.heap.size + 1, 0, none⟩ = some (.int .i64 k) ∧ ((set4 w2 w.heap.size k n xo.id true).alloc (.cells #[.int .i64 k, .int .i64 n] 29)).drew.cell? ⟨w.heap.size + 1, 1, none⟩ = some (.int .i64 n) ∧
          ((set4 w2 w.heap.size k n xo.id true).alloc (.cells #[.int .i64 k, .int .i64 n] 29)).drew.cell? ⟨w.heap.size + 1 + 1, 0, none⟩ = some (.int .i64 xo.id) ∧ ((set4 w2 w.heap.size k n xo.id true).alloc (.cells #[.int .i64 k, .int .i64 n] 29)).drew.cell? ⟨w.heap.size + 1 + 1 + 1, 0, none⟩ = some (.bool true) ∧ Below w.heap.size w ((set4 w2 w.heap.size k n xo.id true).alloc (.cells #[.int .i64 k, .int .i64 n] 29)).drew := by
        obtain ⟨q1, q2, q3, q4⟩ := four_set B1.out B2.out B3.out k n xo.id true
        have hz4 : (set4 w2 w.heap.size k n xo.id true).heap.size = w2.heap.size := by simp [set4, World.setCell]
        have hal := (below1 (set4 w2 w.heap.size k n xo.id true) (.cells #[.int .i64 k, .int .i64 n] 29)).drew
        have r1 := (hal.block (w.heap.size + 1) (by omega)).trans q1
        have r2 := (hal.block (w.heap.size + 1 + 1) (by omega)).trans q2
        have r3 := (hal.block (w.heap.size + 1 + 1 + 1) (by omega)).trans q3
        refine ⟨((keepsOthers_below HB2.out).trans q4).trans (keepsOthers_below hal), cell_kind r1 0 _ rfl, cell_kind r1 1 _ rfl, cell_kind r2 0 _ rfl, cell_kind r3 0 _ rfl, ?_⟩
        have hb2 : Below w.heap.size w w2 := HB5.out.trans (HB52.out.mono (by omega))
        exact (below_set4 hb2 k n xo.id true).trans (hal.mono (by omega))
      unfold set4 at hX
      have HX := Lib.hid hX
      clear hX
      gi_region
      all_goals gi_wp2
      all_goals refine ⟨HX.out.1, ⟨rfl, pre, (xi, ⟨xo, xm⟩), k, n, rfl, HPr.out, HVN.out, ?_⟩, HX.out.2.2.2.2.2⟩
      all_goals dsimp only
      all_goals exact ⟨HX.out.2.1, HX.out.2.2.1, HX.out.2.2.2.1, HX.out.2.2.2.2.1⟩
  case done =>
    rintro D ys W hD hys ⟨hne, hBx⟩ hK
    have hB : Below w5.heap.size w5 W := hB0.trans (hBx.mono (by omega))
    have hbk : ∀ j, j < w5.heap.size → W.heap[j]? = w5.heap[j]? := fun j hj => hB.block j hj
    have b1 := (hbk (w.heap.size + 1) (by omega)).trans N1.out
    have b2 := (hbk (w.heap.size + 1 + 1) (by omega)).trans N2.out
    have b3 := (hbk (w.heap.size + 1 + 1 + 1) (by omega)).trans N3.out
    have e60 := cell_kind b1 0 _ rfl
    have e61 := cell_kind b1 1 _ rfl
    have e7 := cell_kind b2 0 _ rfl
    have e8 := cell_kind b3 0 _ rfl
    have f60 := fz_kind b1 0
    have f61 := fz_kind b1 1
    have f7 := fz_kind b2 0
    have f8 := fz_kind b3 0
    have hwin := win_none hne hys
    obtain ⟨q1, q2, q3, q4⟩ := four_set b1 b2 b3 0 0 0 false
    have hbw : Below w.heap.size w W := HB5.out.trans (hB.mono (by omega))
    have hb4 := below_set4 hbw 0 0 0 false
    have hK' := q4.same D _ hK rfl
    have j60 := cell_kind q1 0 _ rfl
    have j61 := cell_kind q1 1 _ rfl
    have j7 := cell_kind q2 0 _ rfl
    have j8 := cell_kind q3 0 _ rfl
    have i60 := cell_kept j60 (grownBy_putObj' _ D (.deferred none)) (fun r e => by cases e; exact ⟨_, hK', rfl⟩)
    have i61 := cell_kept j61 (grownBy_putObj' _ D (.deferred none)) (fun r e => by cases e; exact ⟨_, hK', rfl⟩)
    have i7 := cell_kept j7 (grownBy_putObj' _ D (.deferred none)) (fun r e => by cases e; exact ⟨_, hK', rfl⟩)
    have i8 := cell_kept j8 (grownBy_putObj' _ D (.deferred none)) (fun r e => by cases e; exact ⟨_, hK', rfl⟩)
    have I60 := Lib.hid i60
    have I61 := Lib.hid i61
    have I7 := Lib.hid i7
    have I8 := Lib.hid i8
    have HWI := Lib.hid hwin
    have HB4 := Lib.hid hb4
    have HK' := Lib.hid hK'
    clear hne hys hB0 k8 hBx hB hbk b1 b2 b3 hwin q1 q2 q3 q4 hbw hb4 hK' j60 j61 j7 j8 i60 i61 i7 i8
    gi_wp2
    refine ⟨by simp, .inl ⟨_, _, rfl, run_takeDeferred HK'.out, ?_⟩⟩
    have i60 := I60.out
    have i61 := I61.out
    have i7 := I7.out
    have i8 := I8.out
    unfold set4 at i60 i61 i7 i8
    refine ⟨.tuple #[.agg #[.int .i64 0, .int .i64 0], .int .i64 0, .bool false], ?_, by rw [← HN1.out, HWI.out], HB4.out.trans (belowK_b (w := w) (Nat.le_refl _) _ D _ _ (by simp at hD; omega) HK'.out rfl rfl)⟩
    simp [results, Tryz.f24, go_sem, i60, i61, i7, i8]
  case stop =>
    rintro D c pre W hD hpre ⟨⟨rfl, q, x, k, n, rfl, hq, hx, g1, g2, g3, g4⟩, hB⟩ hK
    have hwin := win_some hq hx hpre
    have HWI := Lib.hid hwin
    clear hq hx hpre hwin hB0 k8
    gi_wp2
    refine ⟨by simp, .inl ⟨_, _, rfl, run_takeDeferred hK, ?_⟩⟩
    have i60 := cell_kept g1 (grownBy_putObj' _ D (.deferred none)) (fun r e => by cases e; exact ⟨_, hK, rfl⟩)
    have i61 := cell_kept g2 (grownBy_putObj' _ D (.deferred none)) (fun r e => by cases e; exact ⟨_, hK, rfl⟩)
    have i7 := cell_kept g3 (grownBy_putObj' _ D (.deferred none)) (fun r e => by cases e; exact ⟨_, hK, rfl⟩)
    have i8 := cell_kept g4 (grownBy_putObj' _ D (.deferred none)) (fun r e => by cases e; exact ⟨_, hK, rfl⟩)
    refine ⟨.tuple #[.agg #[.int .i64 k, .int .i64 n], .int .i64 x.2.1.id, .bool true], ?_, by rw [← HN1.out, HWI.out], hB.trans (belowK_b (w := w) (Nat.le_refl _) W D _ _ (by simp at hD; omega) hK rfl rfl)⟩
    simp [results, Tryz.f24, go_sem, i60, i61, i7, i8]
theorem s_value (h : OSt w b pr ev D nx S) (hw : WfD D nx) (at_ nm : Int) : Calls Tryz.prog 24 #[.pointer (some ⟨b, 0, none⟩), .int .i64 at_, .int .i64 nm] w fun e w' => e = .returned (winL (sortD pr (D.filter (covB at_))) nm) ∧ Below w.heap.size w w' := by
  obtain ⟨v, L, h1, rfl, h3⟩ := h
  obtain ⟨g1, g2, g3, g4⟩ := dat_good rfl hw
  exact callsIn_wide.1 (ovalue_in h1 g1 g3 (by omega) at_ nm)
end
end Go.Proofs.YthjkdeocdhdkaaaGreat
