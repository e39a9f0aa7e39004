/- scroll.find over view.near: the first start that is comfortable, or none. -/
import Derived.Test.YtnpamchdflfboaaScB
namespace Go.Proofs.Ytnpamchdflfboaa
open Go.RowKit Go.Shelf
set_option linter.unusedVariables false
attribute [local go_sem] Oper.semAt_some

theorem near_stops (n n₀ Bv Bs Bt : Nat) (rows height row margin start step : Int) (M : Nat) (h1 : 1 ≤ rows) (h2 : rows ≤ 100000) (hs0 : 0 ≤ start) (hs1 : start < rows) (hst : 1 ≤ step) (hM : (M : Int) = min step (rows - 1) + 1)
    (hv : Bv < n₀) (hs : Bs < n₀) (ht : Bt < n₀) (w : World) (hn0 : n₀ ≤ w.heap.size)
    (c0 : w.cell? ⟨Bv, 0, none⟩ = some (.int .i64 rows)) (c1 : w.cell? ⟨Bv, 1, none⟩ = some (.int .i64 height)) (c2 : w.cell? ⟨Bv, 2, none⟩ = some (.int .i64 row)) (c3 : w.cell? ⟨Bv, 3, none⟩ = some (.int .i64 margin))
    (c4 : w.cell? ⟨Bs, 0, none⟩ = some (.int .i64 start)) (c5 : w.cell? ⟨Bt, 0, none⟩ = some (.int .i64 step)) :
    SeqStopsK Fence.wide n Try.prog 44 #[.pointer (some ⟨Bt, 0, none⟩), .pointer (some ⟨Bv, 0, none⟩), .pointer (some ⟨Bs, 0, none⟩)] (fun x : RI rows => #[Value.int .i64 x.1]) (Below n₀)
      (fun ys => ys = nearTo rows start M) (fun pre => pre <+: nearTo rows start M) (2 * M) w := fun l J Jx W hW hJ _ hY h0 => by
  have hsz := hW.size
  have a : ∀ {b o : Nat}, b < n₀ → W.cell? ⟨b, o, none⟩ = w.cell? ⟨b, o, none⟩ := fun {b o} hb => hW.cell (p := ⟨b, o, none⟩) (Nat.lt_of_lt_of_le hb hn0)
  exact near1_in n l n₀ Bv Bs Bt rows height row margin start step M h1 h2 hs0 hs1 hst hM hv hs ht J Jx hY W hJ (by omega)
    ((a hv).trans c0) ((a hv).trans c1) ((a hv).trans c2) ((a hv).trans c3) ((a hs).trans c4) ((a ht).trans c5) h0

theorem cell_of_box_l {W : World} {B : Nat} {v : Value} {t : TypeId} (h : W.heap[B]? = some (.cells #[v] t (0, 0))) : W.cell? ⟨B, 0, none⟩ = some v ∧ W.frozen? ⟨B, 0, none⟩ = false := by
  constructor <;> simp [World.cell?, World.frozen?, h]
theorem cell_new_l (W : World) (v : Value) (t : TypeId) : (W.alloc (.cells #[v] t)).cell? ⟨W.heap.size, 0, none⟩ = some v ∧ (W.alloc (.cells #[v] t)).frozen? ⟨W.heap.size, 0, none⟩ = false :=
  cell_of_box_l (World.alloc_heap_new W _)
theorem cell_alloc_l {W : World} {a : Addr} {v : Value} (o : Obj) (h : W.cell? a = some v) : (W.alloc o).cell? a = some v := cell_kept h (World.grownBy_alloc W o none) (fun r e => by cases e)
theorem frozen_alloc_l {W : World} {a : Addr} {v : Value} (o : Obj) (h : W.cell? a = some v) (hf : W.frozen? a = false) : (W.alloc o).frozen? a = false := (frozen_kept h (World.grownBy_alloc W o none) (fun r e => by cases e)).trans hf

theorem keepsOthers_below {w w' : World} (h : Below w.heap.size w w') : KeepsOthers w w' :=
  ⟨h.size, fun k o hk _ => (h.block k (Array.getElem?_eq_some_iff.1 hk).1).trans hk⟩
theorem lt_of_cell {w : World} {b o : Nat} {v : Value} (h : w.cell? ⟨b, o, none⟩ = some v) : b < w.heap.size := by
  rcases Nat.lt_or_ge b w.heap.size with h' | h'
  · exact h'
  · simp [World.cell?, Array.getElem?_eq_none h'] at h

/-- What find hands back. -/
def foundI {rows : Int} (p : Int → Bool) (l : List (RI rows)) : Value := match l.find? (fun x => p x.1) with
  | some x => .tuple #[.int .i64 x.1, .bool true]
  | none => .tuple #[.int .i64 0, .bool false]

theorem found_none {rows : Int} {p : Int → Bool} {l : List (RI rows)} (h : ∀ y ∈ l, p y.1 = false) : foundI p l = .tuple #[.int .i64 0, .bool false] := by
  unfold foundI
  rw [List.find?_eq_none.2 (fun x hx => by simp [h x hx])]
theorem found_some {rows : Int} {p : Int → Bool} {q : List (RI rows)} {x : RI rows} {l : List (RI rows)} (h : ∀ y ∈ q, p y.1 = false) (hx : p x.1 = true) (hp : q ++ [x] <+: l) : foundI p l = .tuple #[.int .i64 x.1, .bool true] := by
  obtain ⟨r, rfl⟩ := hp
  unfold foundI
  have : (q ++ [x] ++ r).find? (fun x => p x.1) = some x := by
    rw [List.append_assoc, List.find?_append, List.find?_eq_none.2 (fun y hy => by simp [h y hy])]
    simp [hx]
  rw [this]

set_option maxRecDepth 100000 in
set_option maxHeartbeats 2000000 in
theorem find_in (Bv Bs Bt : Nat) (rows height row margin start step : Int) (M : Nat) (h1 : 1 ≤ rows) (h2 : rows ≤ 100000) (h3 : 1 ≤ height) (h4 : height ≤ 200) (hs0 : 0 ≤ start) (hs1 : start < rows) (hst : 1 ≤ step) (hM : (M : Int) = min step (rows - 1) + 1)
    (w : World) (hv : Bv < w.heap.size) (hs : Bs < w.heap.size) (ht : Bt < w.heap.size)
    (c0 : w.cell? ⟨Bv, 0, none⟩ = some (.int .i64 rows)) (c1 : w.cell? ⟨Bv, 1, none⟩ = some (.int .i64 height)) (c2 : w.cell? ⟨Bv, 2, none⟩ = some (.int .i64 row)) (c3 : w.cell? ⟨Bv, 3, none⟩ = some (.int .i64 margin))
    (c4 : w.cell? ⟨Bs, 0, none⟩ = some (.int .i64 start)) (c5 : w.cell? ⟨Bt, 0, none⟩ = some (.int .i64 step)) :
    CallsIn Fence.wide 6 Try.prog 31 #[.func (.func 44) #[] #[.pointer (some ⟨Bt, 0, none⟩), .pointer (some ⟨Bv, 0, none⟩), .pointer (some ⟨Bs, 0, none⟩)], .func (.func 34) #[viewV rows height row margin] #[]] w
      fun e w' => e = .returned (foundI (wellI rows height row margin) (nearTo rows start M)) ∧ Below w.heap.size w w' := by
  have HM := Lib.hid hM
  clear hM
  refine callsIn_of_wp_marks Try.func31 rfl trivial ?_ rfl
  simp only [Try.ntmps31, List.size_toArray, List.length_cons, List.length_nil, Nat.reduceAdd, Nat.reduceSub, Array.replicate_succ, Array.replicate_zero, List.push_toArray, List.append_toArray, List.nil_append, List.cons_append]
  gi_wp2
  have k0 := cell_new_l w (.func (.func 34) #[viewV rows height row margin] #[]) 50
  have k1 := cell_new_l (w.alloc (.cells #[.func (.func 34) #[viewV rows height row margin] #[]] 50)) (.int .i64 0) 3
  have k2 := cell_new_l ((w.alloc (.cells #[.func (.func 34) #[viewV rows height row margin] #[]] 50)).alloc (.cells #[.int .i64 0] 3)) (.bool false) 4
  simp only [World.size_alloc] at k1 k2
  have hB0 : Below w.heap.size w (((w.alloc (.cells #[.func (.func 34) #[viewV rows height row margin] #[]] 50)).alloc (.cells #[.int .i64 0] 3)).alloc (.cells #[.bool false] 4)) := (((Below.refl _ w).alloc (Nat.le_refl _) _).alloc (by simp) _).alloc (by simp; omega) _
  have a : ∀ {b o : Nat}, b < w.heap.size → (((w.alloc (.cells #[.func (.func 34) #[viewV rows height row margin] #[]] 50)).alloc (.cells #[.int .i64 0] 3)).alloc (.cells #[.bool false] 4)).cell? ⟨b, o, none⟩ = w.cell? ⟨b, o, none⟩ := fun {b o} hb => hB0.cell (p := ⟨b, o, none⟩) hb
  refine wpIn_rangeFunc_ownF rfl (by omega) (gf := 44) (lb := #[.pointer (some ⟨Bt, 0, none⟩), .pointer (some ⟨Bv, 0, none⟩), .pointer (some ⟨Bs, 0, none⟩)]) rfl trivial (enters_of Try.func44 (by kernel_rfl) rfl)
    (near_stops 5 w.heap.size Bv Bs Bt rows height row margin start step M h1 h2 hs0 hs1 hst HM.out hv hs ht _ (by simp; omega) ((a hv).trans c0) ((a hv).trans c1) ((a hv).trans c2) ((a hv).trans c3) ((a hs).trans c4) ((a ht).trans c5))
    belowK_t (belowK_b (by simp; omega)) (Below.refl _ _) (fun _ => rfl)
    (fun pre W => ((∀ y ∈ pre, wellI rows height row margin y.1 = false) ∧ W.cell? ⟨w.heap.size, 0, none⟩ = some (.func (.func 34) #[viewV rows height row margin] #[]) ∧ W.cell? ⟨w.heap.size + 1, 0, none⟩ = some (.int .i64 0) ∧ W.frozen? ⟨w.heap.size + 1, 0, none⟩ = false ∧ W.cell? ⟨w.heap.size + 1 + 1, 0, none⟩ = some (.bool false) ∧ W.frozen? ⟨w.heap.size + 1 + 1, 0, none⟩ = false) ∧ Below w.heap.size w W)
    (fun c pre W => (c = .ret ∧ ∃ q x, pre = q ++ [x] ∧ (∀ y ∈ q, wellI rows height row margin y.1 = false) ∧ wellI rows height row margin x.1 = true ∧ W.cell? ⟨w.heap.size + 1, 0, none⟩ = some (.int .i64 x.1) ∧ W.cell? ⟨w.heap.size + 1 + 1, 0, none⟩ = some (.bool true)) ∧ Below w.heap.size w W)
    (OwnFrom.and (Own.from (fun s A B row hs hg hr => ⟨hs.1, cell_kept hs.2.1 hg hr, cell_kept hs.2.2.1 hg hr, (frozen_kept hs.2.2.1 hg hr).trans hs.2.2.2.1, cell_kept hs.2.2.2.2.1 hg hr, (frozen_kept hs.2.2.2.2.1 hg hr).trans hs.2.2.2.2.2⟩) _) (ownFrom_below (Nat.le_refl _) (by simp; omega)))
    (fun c => OwnFrom.and (Own.from (fun s A B row hs hg hr => by
      obtain ⟨e, q, x, hq, hn, hx, g1, g2⟩ := hs
      exact ⟨e, q, x, hq, hn, hx, cell_kept g1 hg hr, cell_kept g2 hg hr⟩) _) (ownFrom_below (Nat.le_refl _) (by simp; omega)))
    ⟨⟨by simp, cell_alloc_l _ (cell_alloc_l _ k0.1), cell_alloc_l _ k1.1, frozen_alloc_l _ k1.1 k1.2, k2.1, k2.2⟩, hB0⟩
    (fun x => { tmps := #[.func (.func 44) #[] #[.pointer (some ⟨Bt, 0, none⟩), .pointer (some ⟨Bv, 0, none⟩), .pointer (some ⟨Bs, 0, none⟩)], .func (.func 34) #[viewV rows height row margin] #[], undef, .pointer (some ⟨w.heap.size, 0, none⟩), .pointer (some ⟨w.heap.size + 1, 0, none⟩), .pointer (some ⟨w.heap.size + 1 + 1, 0, none⟩), .int .i64 x.1, undef, .func (.func 44) #[] #[.pointer (some ⟨Bt, 0, none⟩), .pointer (some ⟨Bv, 0, none⟩), .pointer (some ⟨Bs, 0, none⟩)], .int .i64 x.1, undef, undef, undef, undef, undef], defers := [] }) ?assign ?body ?done ?stop
  case assign =>
    intro l x W K hK
    gi_wp2
    exact hK
  case body =>
    rintro l pre x W ⟨⟨hp, g0, g1, g2, g3, g4⟩, hB⟩ _
    clear k0 k1 k2 hB0 a c0 c1 c2 c3 c4 c5
    have hx := x.2
    have HPr := Lib.hid hp
    clear hp
    have hszB := hB.size
    by_cases hw : wellI rows height row margin x.1 = true
    · gi_wp2_with fail
      refine ⟨trivial, (CallsIn.inRound l (callsIn_wide.2 (well_any rows height row margin x.1 W h1 h2 h3 h4 hx.1 hx.2))).mono ?_⟩
      rintro e w1 ⟨rfl, hb1⟩
      have hWs : w.heap.size + 1 + 1 < W.heap.size := lt_of_cell g3
      have i1 := (hb1.cell (p := ⟨w.heap.size + 1, 0, none⟩) (by show w.heap.size + 1 < _; omega)).trans g1
      have i2 := (hb1.frozen (p := ⟨w.heap.size + 1, 0, none⟩) (by show w.heap.size + 1 < _; omega)).trans g2
      have i3 := (hb1.cell (p := ⟨w.heap.size + 1 + 1, 0, none⟩) hWs).trans g3
      have i4 := (hb1.frozen (p := ⟨w.heap.size + 1 + 1, 0, none⟩) hWs).trans g4
      gi_wp2
      refine ⟨((keepsOthers_below hb1).trans (KeepsOthers.setCell _ _ _)).trans (KeepsOthers.setCell _ _ _), ⟨rfl, pre, x, rfl, HPr.out, hw, ?_, ?_⟩, ((hB.trans (hb1.mono hszB)).setCell (p := ⟨w.heap.size + 1, 0, none⟩) (by simp) _).setCell (p := ⟨w.heap.size + 1 + 1, 0, none⟩) (by simp; omega) _⟩
      · rw [World.cell?_setCell_other _ _ _ _ (by simp)]
        exact World.cell?_setCell_same' _ _ _ (by rw [i1]; rfl)
      · exact World.cell?_setCell_same' _ _ _ (by rw [World.cell?_setCell_other _ _ _ _ (by simp), i3]; rfl)
    · have hw' : wellI rows height row margin x.1 = false := by simpa using hw
      clear hw
      gi_wp2_with fail
      refine ⟨trivial, (CallsIn.inRound l (callsIn_wide.2 (well_any rows height row margin x.1 W h1 h2 h3 h4 hx.1 hx.2))).mono ?_⟩
      rintro e w1 ⟨rfl, hb1⟩
      have hWs : w.heap.size + 1 + 1 < W.heap.size := lt_of_cell g3
      have i0 := (hb1.cell (p := ⟨w.heap.size, 0, none⟩) (by show w.heap.size < _; omega)).trans g0
      have i1 := (hb1.cell (p := ⟨w.heap.size + 1, 0, none⟩) (by show w.heap.size + 1 < _; omega)).trans g1
      have i2 := (hb1.frozen (p := ⟨w.heap.size + 1, 0, none⟩) (by show w.heap.size + 1 < _; omega)).trans g2
      have i3 := (hb1.cell (p := ⟨w.heap.size + 1 + 1, 0, none⟩) hWs).trans g3
      have i4 := (hb1.frozen (p := ⟨w.heap.size + 1 + 1, 0, none⟩) hWs).trans g4
      gi_wp2
      exact ⟨keepsOthers_below hb1, hb1.mono hszB, ⟨fun y hy => (List.mem_append.1 hy).elim (HPr.out y) (fun e => by simp at e; subst e; exact hw'), i0, i1, i2, i3, i4⟩, hB.trans (hb1.mono hszB)⟩
  case done =>
    rintro D ys W hD rfl ⟨⟨hne, _, g1, g2, g3, g4⟩, hB⟩ hK
    have HN := Lib.hid hne
    clear hne k0 k1 k2 hB0 a c0 c1 c2 c3 c4 c5
    gi_wp2
    obtain ⟨W2, hW2⟩ : ∃ W2, (W.setCell ⟨w.heap.size + 1, 0, none⟩ (.int .i64 0)).setCell ⟨w.heap.size + 1 + 1, 0, none⟩ (.bool false) = W2 := ⟨_, rfl⟩
    have j1 : W2.cell? ⟨w.heap.size + 1, 0, none⟩ = some (.int .i64 0) := by
      rw [← hW2, World.cell?_setCell_other _ _ _ _ (by simp)]
      exact World.cell?_setCell_same' _ _ _ (by rw [g1]; rfl)
    have j2 : W2.cell? ⟨w.heap.size + 1 + 1, 0, none⟩ = some (.bool false) := by
      rw [← hW2]
      exact World.cell?_setCell_same' _ _ _ (by rw [World.cell?_setCell_other _ _ _ _ (by simp), g3]; rfl)
    have hK' : W2.heap[D]? = some (.deferred (some [])) := by rw [← hW2]; exact ((KeepsOthers.setCell W ⟨w.heap.size + 1, 0, none⟩ (.int .i64 0)).trans (KeepsOthers.setCell _ _ _)).same D _ hK rfl
    have hB2 : Below w.heap.size w W2 := by rw [← hW2]; exact (hB.setCell (p := ⟨w.heap.size + 1, 0, none⟩) (by simp) _).setCell (p := ⟨w.heap.size + 1 + 1, 0, none⟩) (by simp; omega) _
    rw [hW2]
    refine ⟨by simp, .inl ⟨_, _, rfl, run_takeDeferred hK', ?_⟩⟩
    have i1 := cell_kept j1 (grownBy_putObj' _ D (.deferred none)) (fun r e => by cases e; exact ⟨_, hK', rfl⟩)
    have i2 := cell_kept j2 (grownBy_putObj' _ D (.deferred none)) (fun r e => by cases e; exact ⟨_, hK', rfl⟩)
    refine ⟨.tuple #[.int .i64 0, .bool false], ?_, by rw [found_none HN.out], hB2.trans (belowK_b (w := w) (Nat.le_refl _) W2 D _ _ (by simp at hD; omega) hK' rfl rfl)⟩
    simp [results, Try.f31, go_sem, i1, i2]
  case stop =>
    rintro D c pre W hD hpre ⟨⟨rfl, q, x, rfl, hq, hx, g1, g2⟩, hB⟩ hK
    have HQ := Lib.hid hq
    clear hq k0 k1 k2 hB0 a c0 c1 c2 c3 c4 c5
    gi_wp2
    refine ⟨by simp, .inl ⟨_, _, rfl, run_takeDeferred hK, ?_⟩⟩
    have i1 := cell_kept g1 (grownBy_putObj' _ D (.deferred none)) (fun r e => by cases e; exact ⟨_, hK, rfl⟩)
    have i2 := cell_kept g2 (grownBy_putObj' _ D (.deferred none)) (fun r e => by cases e; exact ⟨_, hK, rfl⟩)
    refine ⟨.tuple #[.int .i64 x.1, .bool true], ?_, by rw [found_some HQ.out hx hpre], hB.trans (belowK_b (w := w) (Nat.le_refl _) W D _ _ (by simp at hD; omega) hK rfl rfl)⟩
    simp [results, Try.f31, go_sem, i1, i2]
end Go.Proofs.Ytnpamchdflfboaa
