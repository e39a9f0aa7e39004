/- layout.At. -/
import Derived.Test.YtnpamchdflfboaaRwH
namespace Go.Proofs.Ytnpamchdflfboaa
open Go.RowKit Go.Shelf
set_option linter.unusedVariables false
set_option linter.unusedSimpArgs false
attribute [local go_sem] Oper.semAt_some
section
variable {w w' : World} {A A' : Option Addr} {l l' : List RowE}
theorem back_stops (n n₀ Bs : Nat) (ps : List Int) (A : Option Addr) (c : Nat) (hl : ps.length ≤ 1000000) (hs : Bs < n₀) (w : World) (hn0 : n₀ ≤ w.heap.size)
    (c0 : w.cell? ⟨Bs, 0, none⟩ = some (.slice A ps.length c)) (hps : ∀ W', Below n₀ w W' → RSl encI W' A ps) :
    SeqStopsK Fence.wide n Try.prog 50 #[.pointer (some ⟨Bs, 0, none⟩)] (fun x : Nat × Int => #[Value.int .i64 x.1, Value.int .i64 x.2]) (Below n₀)
      (fun ys => ys = backTo ps ps.length) (fun pre => pre <+: backTo ps ps.length) ps.length w := fun l J Jx W hW hJ _ hY h0 => by
  have hsz := hW.size
  have a : ∀ {b o : Nat}, b < n₀ → W.cell? ⟨b, o, none⟩ = w.cell? ⟨b, o, none⟩ := fun {b o} hb => hW.cell (p := ⟨b, o, none⟩) (Nat.lt_of_lt_of_le hb hn0)
  exact back_in n l n₀ Bs ps A c hl hs J Jx hY W (by omega) ((a hs).trans c0) (fun W' hb => hps W' ((hW.mono hn0).trans hb)) h0
set_option maxHeartbeats 400000 in
theorem backward_any (A : Option Addr) (n c : Nat) (w : World) : Calls Try.prog 49 #[.slice A n c] w fun e w' => e = .returned (.func (.func 50) #[] #[.pointer (some ⟨w.heap.size, 0, none⟩)]) ∧ w' = w.alloc (.cells #[.slice A n c] 38) := by
  go_enter Try.func49, Try.ntmps49
  go_wp2
  go_ret
  exact ⟨rfl, rfl⟩
/-- The last position of a row, looked for from the back. -/
def lastV (ps : List Int) : Value := match (backTo ps ps.length).find? (fun x => x.2 != -1) with
  | some x => .tuple #[.int .i64 x.2, .bool true]
  | none => .tuple #[.int .i64 0, .bool false]
theorem last_none {ps : List Int} (h : ∀ y ∈ backTo ps ps.length, y.2 = -1) : lastV ps = .tuple #[.int .i64 0, .bool false] := by
  unfold lastV
  rw [List.find?_eq_none.2 (fun x hx => by simp [h x hx])]
theorem last_some {ps : List Int} {q : List (Nat × Int)} {x : Nat × Int} (h : ∀ y ∈ q, y.2 = -1) (hx : ¬ x.2 = -1) (hp : q ++ [x] <+: backTo ps ps.length) : lastV ps = .tuple #[.int .i64 x.2, .bool true] := by
  obtain ⟨r, hr⟩ := hp
  unfold lastV
  have : (q ++ [x] ++ r).find? (fun x => x.2 != -1) = some x := by
    rw [List.append_assoc, List.find?_append, List.find?_eq_none.2 (fun y hy => by simp [h y hy])]
    simp [hx]
  rw [← hr, this]
/-- A cell of a row, if it has a position. -/
def atV (ps : List Int) (col : Int) : Value := if 0 ≤ col ∧ col < ps.length ∧ ¬ ps.getD col.toNat 0 = -1 then .tuple #[.int .i64 (ps.getD col.toNat 0), .bool true] else lastV ps
set_option maxRecDepth 100000 in
set_option maxHeartbeats 2000000 in
theorem at_neg (c : Nat) (row : Nat) (col : Int) (e : RowE) (h : RowsAt w A l) (hl : l.length ≤ 1000000) (hx : l[row]? = some e) (hb : e.ps.length ≤ 1000000) (hno : col < 0) :
    CallsIn Fence.wide 6 Try.prog 40 #[.slice A l.length c, .int .i64 row, .int .i64 col] w fun e' w' => e' = .returned (lastV e.ps) ∧ Below w.heap.size w w' := by
  have hrow := (List.getElem?_eq_some_iff.1 hx).1
  have hI := (h.2 e (List.mem_of_getElem? hx)).i2
  obtain ⟨g, o, rfl, hg, hcg⟩ := h.1.at_ eltR hx
  obtain ⟨A1, c1, cs, A2, c2, ps, fr, to, co⟩ := e
  dsimp only at hb hno hI ⊢
  have k1 : w.cell? ⟨g, o + row * 5 + 1, none⟩ = some (.slice A2 ps.length c2) := hcg 1 _ rfl
  have r0 : (0 : Int) ≤ row := by omega
  have r1 : (row : Int) < l.length := by omega
  have e1 : decide ((row : Int) < 0) = false := decide_eq_false (by omega)
  have e2 : decide ((l.length : Int) ≤ (row : Int)) = false := decide_eq_false (by omega)
  have HI := Lib.hid hI
  clear hx hcg hI h
  have d1 : decide ((0 : Int) ≤ col) = false := decide_eq_false (by omega)
  clear hno
  refine callsIn_of_wp_marks Try.func40 rfl trivial ?_ rfl
  simp only [Try.ntmps40, List.size_toArray, List.length_cons, List.length_nil, Nat.reduceAdd, Nat.reduceSub, Array.replicate_succ, Array.replicate_zero, List.push_toArray, List.append_toArray, List.nil_append, List.cons_append]
  gi_wp2_with fail
  refine ⟨trivial, (callsIn_wide.2 (backward_any A2 ps.length c2 _)).mono ?_⟩
  rintro e w1 ⟨rfl, rfl⟩
  gi_wp2_with fail
  have k6 := cell_new_l w (.int .i64 0) 3
  have k7 := cell_new_l (w.alloc (.cells #[.int .i64 0] 3)) (.bool false) 4
  have k8 := cell_new_l ((w.alloc (.cells #[.int .i64 0] 3)).alloc (.cells #[.bool false] 4)) (.slice A2 ps.length c2) 38
  simp only [World.size_alloc] at k7 k8
  have hB0 : Below w.heap.size w (((w.alloc (.cells #[.int .i64 0] 3)).alloc (.cells #[.bool false] 4)).alloc (.cells #[.slice A2 ps.length c2] 38)) := (((Below.refl _ w).alloc (Nat.le_refl _) _).alloc (by simp) _).alloc (by simp <;> omega) _
  refine wpIn_rangeFunc_ownF rfl (by omega) (gf := 50) (lb := #[.pointer (some ⟨w.heap.size + 1 + 1, 0, none⟩)]) rfl trivial (enters_of Try.func50 (by kernel_rfl) rfl)
    (back_stops 5 (w.heap.size + 3) (w.heap.size + 1 + 1) ps A2 c2 hb (by omega) _ (by simp <;> omega) k8.1 (fun W' hbW => HI.out.up (hB0.trans (hbW.mono (by omega)))))
    belowK_t (belowK_b (by simp <;> omega)) (Below.refl _ _) (fun _ => rfl)
    (fun pre W => ((∀ y ∈ pre, y.2 = -1) ∧ W.cell? ⟨w.heap.size, 0, none⟩ = some (.int .i64 0) ∧ W.frozen? ⟨w.heap.size, 0, none⟩ = false ∧ W.cell? ⟨w.heap.size + 1, 0, none⟩ = some (.bool false) ∧ W.frozen? ⟨w.heap.size + 1, 0, none⟩ = false) ∧ Below w.heap.size w W)
    (fun c pre W => (c = .ret ∧ ∃ q x, pre = q ++ [x] ∧ (∀ y ∈ q, y.2 = -1) ∧ ¬ x.2 = -1 ∧ W.cell? ⟨w.heap.size, 0, none⟩ = some (.int .i64 x.2) ∧ W.cell? ⟨w.heap.size + 1, 0, none⟩ = some (.bool true)) ∧ Below w.heap.size w W)
    (OwnFrom.and (Own.from (fun s A B row hs hg hr => ⟨hs.1, cell_kept hs.2.1 hg hr, (frozen_kept hs.2.1 hg hr).trans hs.2.2.1, cell_kept hs.2.2.2.1 hg hr, (frozen_kept hs.2.2.2.1 hg hr).trans hs.2.2.2.2⟩) _) (ownFrom_below (Nat.le_refl _) (by simp <;> omega)))
    (fun c => OwnFrom.and (Own.from (fun s A B row hs hg hr => by
      obtain ⟨e, q, x, hq, hn, hx, g1, g2⟩ := hs
      exact ⟨e, q, x, hq, hn, hx, cell_kept g1 hg hr, cell_kept g2 hg hr⟩) _) (ownFrom_below (Nat.le_refl _) (by simp <;> omega)))
    ⟨⟨by simp, cell_alloc_l _ (cell_alloc_l _ k6.1), frozen_alloc_l _ (cell_alloc_l _ k6.1) (frozen_alloc_l _ k6.1 k6.2), cell_alloc_l _ k7.1, frozen_alloc_l _ k7.1 k7.2⟩, hB0⟩
    ?fr ?assign ?body ?done ?stop
  case assign =>
    intro l x W K hK
    gi_wp2
    exact hK
  case body =>
    rintro l pre x W ⟨⟨hp, g1, g2, g3, g4⟩, hB⟩ _
    clear k6 k7 k8 hB0
    have HPr := Lib.hid hp
    clear hp
    by_cases hx : x.2 = -1
    · have hne : (x.2 != -1) = false := by simpa using hx
      have HX := Lib.hid hx
      clear hx
      gi_wp2
      exact ⟨keepsOthers_below (Below.refl _ _), Below.refl _ _, ⟨fun y hy => (List.mem_append.1 hy).elim (HPr.out y) (fun e => by rw [List.mem_singleton.1 e]; exact HX.out), g1, g2, g3, g4⟩, hB⟩
    · have hne : (x.2 != -1) = true := by simpa using hx
      have HX := Lib.hid hx
      clear hx
      gi_wp2
      refine ⟨(KeepsOthers.setCell _ _ _).trans (KeepsOthers.setCell _ _ _), ⟨rfl, pre, x, rfl, HPr.out, HX.out, ?_, ?_⟩, (hB.setCell (p := ⟨w.heap.size, 0, none⟩) (by simp) _).setCell (p := ⟨w.heap.size + 1, 0, none⟩) (by simp) _⟩
      · rw [World.cell?_setCell_other _ _ _ _ (by simp)]
        exact World.cell?_setCell_same' _ _ _ (by rw [g1]; rfl)
      · exact World.cell?_setCell_same' _ _ _ (by rw [World.cell?_setCell_other _ _ _ _ (by simp), g3]; rfl)
  case done =>
    rintro D ys W hD rfl ⟨⟨hne, g1, g2, g3, g4⟩, hB⟩ hK
    have HN := Lib.hid hne
    clear hne k6 k7 k8 hB0
    gi_wp2
    obtain ⟨W2, hW2⟩ : ∃ W2, (W.setCell ⟨w.heap.size, 0, none⟩ (.int .i64 0)).setCell ⟨w.heap.size + 1, 0, none⟩ (.bool false) = W2 := ⟨_, rfl⟩
    have j1 : W2.cell? ⟨w.heap.size, 0, none⟩ = some (.int .i64 0) := by
      rw [← hW2, World.cell?_setCell_other _ _ _ _ (by simp)]
      exact World.cell?_setCell_same' _ _ _ (by rw [g1]; rfl)
    have j2 : W2.cell? ⟨w.heap.size + 1, 0, none⟩ = some (.bool false) := by
      rw [← hW2]
      exact World.cell?_setCell_same' _ _ _ (by rw [World.cell?_setCell_other _ _ _ _ (by simp), g3]; rfl)
    have hK' : W2.heap[D]? = some (.deferred (some [])) := by rw [← hW2]; exact ((KeepsOthers.setCell W ⟨w.heap.size, 0, none⟩ (.int .i64 0)).trans (KeepsOthers.setCell _ _ _)).same D _ hK rfl
    have hB2 : Below w.heap.size w W2 := by rw [← hW2]; exact (hB.setCell (p := ⟨w.heap.size, 0, none⟩) (by simp) _).setCell (p := ⟨w.heap.size + 1, 0, none⟩) (by simp) _
    rw [hW2]
    refine ⟨by simp, .inl ⟨_, _, rfl, run_takeDeferred hK', ?_⟩⟩
    have i1 := cell_kept j1 (grownBy_putObj' _ D (.deferred none)) (fun r e => by cases e; exact ⟨_, hK', rfl⟩)
    have i2 := cell_kept j2 (grownBy_putObj' _ D (.deferred none)) (fun r e => by cases e; exact ⟨_, hK', rfl⟩)
    refine ⟨.tuple #[.int .i64 0, .bool false], ?_, by rw [last_none HN.out], hB2.trans (belowK_b (w := w) (Nat.le_refl _) W2 D _ _ (by simp at hD; omega) hK' rfl rfl)⟩
    simp [results, Try.f40, go_sem, i1, i2]
  case stop =>
    rintro D c pre W hD hpre ⟨⟨rfl, q, x, rfl, hq, hx, g1, g2⟩, hB⟩ hK
    have HQ := Lib.hid hq
    clear hq k6 k7 k8 hB0
    gi_wp2
    refine ⟨by simp, .inl ⟨_, _, rfl, run_takeDeferred hK, ?_⟩⟩
    have i1 := cell_kept g1 (grownBy_putObj' _ D (.deferred none)) (fun r e => by cases e; exact ⟨_, hK, rfl⟩)
    have i2 := cell_kept g2 (grownBy_putObj' _ D (.deferred none)) (fun r e => by cases e; exact ⟨_, hK, rfl⟩)
    refine ⟨.tuple #[.int .i64 x.2, .bool true], ?_, by rw [last_some HQ.out hx hpre], hB.trans (belowK_b (w := w) (Nat.le_refl _) W D _ _ (by simp at hD; omega) hK rfl rfl)⟩
    simp [results, Try.f40, go_sem, i1, i2]
set_option maxRecDepth 100000 in
set_option maxHeartbeats 2000000 in
theorem at_far (c : Nat) (row : Nat) (col : Int) (e : RowE) (h : RowsAt w A l) (hl : l.length ≤ 1000000) (hx : l[row]? = some e) (hb : e.ps.length ≤ 1000000) (hno : 0 ≤ col ∧ (e.ps.length : Int) ≤ col) :
    CallsIn Fence.wide 6 Try.prog 40 #[.slice A l.length c, .int .i64 row, .int .i64 col] w fun e' w' => e' = .returned (lastV e.ps) ∧ Below w.heap.size w w' := by
  have hrow := (List.getElem?_eq_some_iff.1 hx).1
  have hI := (h.2 e (List.mem_of_getElem? hx)).i2
  obtain ⟨g, o, rfl, hg, hcg⟩ := h.1.at_ eltR hx
  obtain ⟨A1, c1, cs, A2, c2, ps, fr, to, co⟩ := e
  dsimp only at hb hno hI ⊢
  have k1 : w.cell? ⟨g, o + row * 5 + 1, none⟩ = some (.slice A2 ps.length c2) := hcg 1 _ rfl
  have r0 : (0 : Int) ≤ row := by omega
  have r1 : (row : Int) < l.length := by omega
  have e1 : decide ((row : Int) < 0) = false := decide_eq_false (by omega)
  have e2 : decide ((l.length : Int) ≤ (row : Int)) = false := decide_eq_false (by omega)
  have HI := Lib.hid hI
  clear hx hcg hI h
  have d1 : decide ((0 : Int) ≤ col) = true := decide_eq_true hno.1
  have d2 : decide (col < (ps.length : Int)) = false := decide_eq_false (by omega)
  clear hno
  refine callsIn_of_wp_marks Try.func40 rfl trivial ?_ rfl
  simp only [Try.ntmps40, List.size_toArray, List.length_cons, List.length_nil, Nat.reduceAdd, Nat.reduceSub, Array.replicate_succ, Array.replicate_zero, List.push_toArray, List.append_toArray, List.nil_append, List.cons_append]
  gi_wp2_with fail
  refine ⟨trivial, (callsIn_wide.2 (backward_any A2 ps.length c2 _)).mono ?_⟩
  rintro e w1 ⟨rfl, rfl⟩
  gi_wp2_with fail
  have k6 := cell_new_l w (.int .i64 0) 3
  have k7 := cell_new_l (w.alloc (.cells #[.int .i64 0] 3)) (.bool false) 4
  have k8 := cell_new_l ((w.alloc (.cells #[.int .i64 0] 3)).alloc (.cells #[.bool false] 4)) (.slice A2 ps.length c2) 38
  simp only [World.size_alloc] at k7 k8
  have hB0 : Below w.heap.size w (((w.alloc (.cells #[.int .i64 0] 3)).alloc (.cells #[.bool false] 4)).alloc (.cells #[.slice A2 ps.length c2] 38)) := (((Below.refl _ w).alloc (Nat.le_refl _) _).alloc (by simp) _).alloc (by simp <;> omega) _
  refine wpIn_rangeFunc_ownF rfl (by omega) (gf := 50) (lb := #[.pointer (some ⟨w.heap.size + 1 + 1, 0, none⟩)]) rfl trivial (enters_of Try.func50 (by kernel_rfl) rfl)
    (back_stops 5 (w.heap.size + 3) (w.heap.size + 1 + 1) ps A2 c2 hb (by omega) _ (by simp <;> omega) k8.1 (fun W' hbW => HI.out.up (hB0.trans (hbW.mono (by omega)))))
    belowK_t (belowK_b (by simp <;> omega)) (Below.refl _ _) (fun _ => rfl)
    (fun pre W => ((∀ y ∈ pre, y.2 = -1) ∧ W.cell? ⟨w.heap.size, 0, none⟩ = some (.int .i64 0) ∧ W.frozen? ⟨w.heap.size, 0, none⟩ = false ∧ W.cell? ⟨w.heap.size + 1, 0, none⟩ = some (.bool false) ∧ W.frozen? ⟨w.heap.size + 1, 0, none⟩ = false) ∧ Below w.heap.size w W)
    (fun c pre W => (c = .ret ∧ ∃ q x, pre = q ++ [x] ∧ (∀ y ∈ q, y.2 = -1) ∧ ¬ x.2 = -1 ∧ W.cell? ⟨w.heap.size, 0, none⟩ = some (.int .i64 x.2) ∧ W.cell? ⟨w.heap.size + 1, 0, none⟩ = some (.bool true)) ∧ Below w.heap.size w W)
    (OwnFrom.and (Own.from (fun s A B row hs hg hr => ⟨hs.1, cell_kept hs.2.1 hg hr, (frozen_kept hs.2.1 hg hr).trans hs.2.2.1, cell_kept hs.2.2.2.1 hg hr, (frozen_kept hs.2.2.2.1 hg hr).trans hs.2.2.2.2⟩) _) (ownFrom_below (Nat.le_refl _) (by simp <;> omega)))
    (fun c => OwnFrom.and (Own.from (fun s A B row hs hg hr => by
      obtain ⟨e, q, x, hq, hn, hx, g1, g2⟩ := hs
      exact ⟨e, q, x, hq, hn, hx, cell_kept g1 hg hr, cell_kept g2 hg hr⟩) _) (ownFrom_below (Nat.le_refl _) (by simp <;> omega)))
    ⟨⟨by simp, cell_alloc_l _ (cell_alloc_l _ k6.1), frozen_alloc_l _ (cell_alloc_l _ k6.1) (frozen_alloc_l _ k6.1 k6.2), cell_alloc_l _ k7.1, frozen_alloc_l _ k7.1 k7.2⟩, hB0⟩
    ?fr ?assign ?body ?done ?stop
  case assign =>
    intro l x W K hK
    gi_wp2
    exact hK
  case body =>
    rintro l pre x W ⟨⟨hp, g1, g2, g3, g4⟩, hB⟩ _
    clear k6 k7 k8 hB0
    have HPr := Lib.hid hp
    clear hp
    by_cases hx : x.2 = -1
    · have hne : (x.2 != -1) = false := by simpa using hx
      have HX := Lib.hid hx
      clear hx
      gi_wp2
      exact ⟨keepsOthers_below (Below.refl _ _), Below.refl _ _, ⟨fun y hy => (List.mem_append.1 hy).elim (HPr.out y) (fun e => by rw [List.mem_singleton.1 e]; exact HX.out), g1, g2, g3, g4⟩, hB⟩
    · have hne : (x.2 != -1) = true := by simpa using hx
      have HX := Lib.hid hx
      clear hx
      gi_wp2
      refine ⟨(KeepsOthers.setCell _ _ _).trans (KeepsOthers.setCell _ _ _), ⟨rfl, pre, x, rfl, HPr.out, HX.out, ?_, ?_⟩, (hB.setCell (p := ⟨w.heap.size, 0, none⟩) (by simp) _).setCell (p := ⟨w.heap.size + 1, 0, none⟩) (by simp) _⟩
      · rw [World.cell?_setCell_other _ _ _ _ (by simp)]
        exact World.cell?_setCell_same' _ _ _ (by rw [g1]; rfl)
      · exact World.cell?_setCell_same' _ _ _ (by rw [World.cell?_setCell_other _ _ _ _ (by simp), g3]; rfl)
  case done =>
    rintro D ys W hD rfl ⟨⟨hne, g1, g2, g3, g4⟩, hB⟩ hK
    have HN := Lib.hid hne
    clear hne k6 k7 k8 hB0
    gi_wp2
    obtain ⟨W2, hW2⟩ : ∃ W2, (W.setCell ⟨w.heap.size, 0, none⟩ (.int .i64 0)).setCell ⟨w.heap.size + 1, 0, none⟩ (.bool false) = W2 := ⟨_, rfl⟩
    have j1 : W2.cell? ⟨w.heap.size, 0, none⟩ = some (.int .i64 0) := by
      rw [← hW2, World.cell?_setCell_other _ _ _ _ (by simp)]
      exact World.cell?_setCell_same' _ _ _ (by rw [g1]; rfl)
    have j2 : W2.cell? ⟨w.heap.size + 1, 0, none⟩ = some (.bool false) := by
      rw [← hW2]
      exact World.cell?_setCell_same' _ _ _ (by rw [World.cell?_setCell_other _ _ _ _ (by simp), g3]; rfl)
    have hK' : W2.heap[D]? = some (.deferred (some [])) := by rw [← hW2]; exact ((KeepsOthers.setCell W ⟨w.heap.size, 0, none⟩ (.int .i64 0)).trans (KeepsOthers.setCell _ _ _)).same D _ hK rfl
    have hB2 : Below w.heap.size w W2 := by rw [← hW2]; exact (hB.setCell (p := ⟨w.heap.size, 0, none⟩) (by simp) _).setCell (p := ⟨w.heap.size + 1, 0, none⟩) (by simp) _
    rw [hW2]
    refine ⟨by simp, .inl ⟨_, _, rfl, run_takeDeferred hK', ?_⟩⟩
    have i1 := cell_kept j1 (grownBy_putObj' _ D (.deferred none)) (fun r e => by cases e; exact ⟨_, hK', rfl⟩)
    have i2 := cell_kept j2 (grownBy_putObj' _ D (.deferred none)) (fun r e => by cases e; exact ⟨_, hK', rfl⟩)
    refine ⟨.tuple #[.int .i64 0, .bool false], ?_, by rw [last_none HN.out], hB2.trans (belowK_b (w := w) (Nat.le_refl _) W2 D _ _ (by simp at hD; omega) hK' rfl rfl)⟩
    simp [results, Try.f40, go_sem, i1, i2]
  case stop =>
    rintro D c pre W hD hpre ⟨⟨rfl, q, x, rfl, hq, hx, g1, g2⟩, hB⟩ hK
    have HQ := Lib.hid hq
    clear hq k6 k7 k8 hB0
    gi_wp2
    refine ⟨by simp, .inl ⟨_, _, rfl, run_takeDeferred hK, ?_⟩⟩
    have i1 := cell_kept g1 (grownBy_putObj' _ D (.deferred none)) (fun r e => by cases e; exact ⟨_, hK, rfl⟩)
    have i2 := cell_kept g2 (grownBy_putObj' _ D (.deferred none)) (fun r e => by cases e; exact ⟨_, hK, rfl⟩)
    refine ⟨.tuple #[.int .i64 x.2, .bool true], ?_, by rw [last_some HQ.out hx hpre], hB.trans (belowK_b (w := w) (Nat.le_refl _) W D _ _ (by simp at hD; omega) hK rfl rfl)⟩
    simp [results, Try.f40, go_sem, i1, i2]
set_option maxRecDepth 100000 in
set_option maxHeartbeats 2000000 in
theorem at_gap (c : Nat) (row : Nat) (col : Int) (e : RowE) (h : RowsAt w A l) (hl : l.length ≤ 1000000) (hx : l[row]? = some e) (hb : e.ps.length ≤ 1000000) (m : Nat) (hm : col = m) (hno : m < e.ps.length ∧ e.ps.getD m 0 = -1) :
    CallsIn Fence.wide 6 Try.prog 40 #[.slice A l.length c, .int .i64 row, .int .i64 col] w fun e' w' => e' = .returned (lastV e.ps) ∧ Below w.heap.size w w' := by
  have hrow := (List.getElem?_eq_some_iff.1 hx).1
  have hI := (h.2 e (List.mem_of_getElem? hx)).i2
  obtain ⟨g, o, rfl, hg, hcg⟩ := h.1.at_ eltR hx
  obtain ⟨A1, c1, cs, A2, c2, ps, fr, to, co⟩ := e
  dsimp only at hb hno hI ⊢
  have k1 : w.cell? ⟨g, o + row * 5 + 1, none⟩ = some (.slice A2 ps.length c2) := hcg 1 _ rfl
  have r0 : (0 : Int) ≤ row := by omega
  have r1 : (row : Int) < l.length := by omega
  have e1 : decide ((row : Int) < 0) = false := decide_eq_false (by omega)
  have e2 : decide ((l.length : Int) ≤ (row : Int)) = false := decide_eq_false (by omega)
  have HI := Lib.hid hI
  clear hx hcg hI h
  subst hm
  obtain ⟨z, hz⟩ : ∃ z, ps[m]? = some z := ⟨_, List.getElem?_eq_getElem hno.1⟩
  have hz1 : z = -1 := by have := hno.2; rw [List.getD_eq_getElem?_getD, hz] at this; exact this
  subst hz1
  obtain ⟨g2, o2, hAe, hg2, hc2⟩ := HI.out.at_ eltI hz
  subst hAe
  have kz := hc2 0 _ rfl
  simp only [Nat.mul_one, Nat.add_zero] at kz
  have m0 : (0 : Int) ≤ m := by omega
  have m1 : (m : Int) < ps.length := by omega
  have d1 : decide ((0 : Int) ≤ (m : Int)) = true := decide_eq_true m0
  have d2 : decide ((m : Int) < (ps.length : Int)) = true := decide_eq_true m1
  clear hno hz hc2
  refine callsIn_of_wp_marks Try.func40 rfl trivial ?_ rfl
  simp only [Try.ntmps40, List.size_toArray, List.length_cons, List.length_nil, Nat.reduceAdd, Nat.reduceSub, Array.replicate_succ, Array.replicate_zero, List.push_toArray, List.append_toArray, List.nil_append, List.cons_append]
  gi_wp2_with fail
  refine ⟨trivial, (callsIn_wide.2 (backward_any (some ⟨g2, o2, none⟩) ps.length c2 _)).mono ?_⟩
  rintro e w1 ⟨rfl, rfl⟩
  gi_wp2_with fail
  have k6 := cell_new_l w (.int .i64 0) 3
  have k7 := cell_new_l (w.alloc (.cells #[.int .i64 0] 3)) (.bool false) 4
  have k8 := cell_new_l ((w.alloc (.cells #[.int .i64 0] 3)).alloc (.cells #[.bool false] 4)) (.slice (some ⟨g2, o2, none⟩) ps.length c2) 38
  simp only [World.size_alloc] at k7 k8
  have hB0 : Below w.heap.size w (((w.alloc (.cells #[.int .i64 0] 3)).alloc (.cells #[.bool false] 4)).alloc (.cells #[.slice (some ⟨g2, o2, none⟩) ps.length c2] 38)) := (((Below.refl _ w).alloc (Nat.le_refl _) _).alloc (by simp) _).alloc (by simp <;> omega) _
  refine wpIn_rangeFunc_ownF rfl (by omega) (gf := 50) (lb := #[.pointer (some ⟨w.heap.size + 1 + 1, 0, none⟩)]) rfl trivial (enters_of Try.func50 (by kernel_rfl) rfl)
    (back_stops 5 (w.heap.size + 3) (w.heap.size + 1 + 1) ps (some ⟨g2, o2, none⟩) c2 hb (by omega) _ (by simp <;> omega) k8.1 (fun W' hbW => HI.out.up (hB0.trans (hbW.mono (by omega)))))
    belowK_t (belowK_b (by simp <;> omega)) (Below.refl _ _) (fun _ => rfl)
    (fun pre W => ((∀ y ∈ pre, y.2 = -1) ∧ W.cell? ⟨w.heap.size, 0, none⟩ = some (.int .i64 0) ∧ W.frozen? ⟨w.heap.size, 0, none⟩ = false ∧ W.cell? ⟨w.heap.size + 1, 0, none⟩ = some (.bool false) ∧ W.frozen? ⟨w.heap.size + 1, 0, none⟩ = false) ∧ Below w.heap.size w W)
    (fun c pre W => (c = .ret ∧ ∃ q x, pre = q ++ [x] ∧ (∀ y ∈ q, y.2 = -1) ∧ ¬ x.2 = -1 ∧ W.cell? ⟨w.heap.size, 0, none⟩ = some (.int .i64 x.2) ∧ W.cell? ⟨w.heap.size + 1, 0, none⟩ = some (.bool true)) ∧ Below w.heap.size w W)
    (OwnFrom.and (Own.from (fun s A B row hs hg hr => ⟨hs.1, cell_kept hs.2.1 hg hr, (frozen_kept hs.2.1 hg hr).trans hs.2.2.1, cell_kept hs.2.2.2.1 hg hr, (frozen_kept hs.2.2.2.1 hg hr).trans hs.2.2.2.2⟩) _) (ownFrom_below (Nat.le_refl _) (by simp <;> omega)))
    (fun c => OwnFrom.and (Own.from (fun s A B row hs hg hr => by
      obtain ⟨e, q, x, hq, hn, hx, g1, g2⟩ := hs
      exact ⟨e, q, x, hq, hn, hx, cell_kept g1 hg hr, cell_kept g2 hg hr⟩) _) (ownFrom_below (Nat.le_refl _) (by simp <;> omega)))
    ⟨⟨by simp, cell_alloc_l _ (cell_alloc_l _ k6.1), frozen_alloc_l _ (cell_alloc_l _ k6.1) (frozen_alloc_l _ k6.1 k6.2), cell_alloc_l _ k7.1, frozen_alloc_l _ k7.1 k7.2⟩, hB0⟩
    ?fr ?assign ?body ?done ?stop
  case assign =>
    intro l x W K hK
    gi_wp2
    exact hK
  case body =>
    rintro l pre x W ⟨⟨hp, g1, g2, g3, g4⟩, hB⟩ _
    clear k6 k7 k8 hB0
    have HPr := Lib.hid hp
    clear hp
    by_cases hx : x.2 = -1
    · have hne : (x.2 != -1) = false := by simpa using hx
      have HX := Lib.hid hx
      clear hx
      gi_wp2
      exact ⟨keepsOthers_below (Below.refl _ _), Below.refl _ _, ⟨fun y hy => (List.mem_append.1 hy).elim (HPr.out y) (fun e => by rw [List.mem_singleton.1 e]; exact HX.out), g1, g2, g3, g4⟩, hB⟩
    · have hne : (x.2 != -1) = true := by simpa using hx
      have HX := Lib.hid hx
      clear hx
      gi_wp2
      refine ⟨(KeepsOthers.setCell _ _ _).trans (KeepsOthers.setCell _ _ _), ⟨rfl, pre, x, rfl, HPr.out, HX.out, ?_, ?_⟩, (hB.setCell (p := ⟨w.heap.size, 0, none⟩) (by simp) _).setCell (p := ⟨w.heap.size + 1, 0, none⟩) (by simp) _⟩
      · rw [World.cell?_setCell_other _ _ _ _ (by simp)]
        exact World.cell?_setCell_same' _ _ _ (by rw [g1]; rfl)
      · exact World.cell?_setCell_same' _ _ _ (by rw [World.cell?_setCell_other _ _ _ _ (by simp), g3]; rfl)
  case done =>
    rintro D ys W hD rfl ⟨⟨hne, g1, g2, g3, g4⟩, hB⟩ hK
    have HN := Lib.hid hne
    clear hne k6 k7 k8 hB0
    gi_wp2
    obtain ⟨W2, hW2⟩ : ∃ W2, (W.setCell ⟨w.heap.size, 0, none⟩ (.int .i64 0)).setCell ⟨w.heap.size + 1, 0, none⟩ (.bool false) = W2 := ⟨_, rfl⟩
    have j1 : W2.cell? ⟨w.heap.size, 0, none⟩ = some (.int .i64 0) := by
      rw [← hW2, World.cell?_setCell_other _ _ _ _ (by simp)]
      exact World.cell?_setCell_same' _ _ _ (by rw [g1]; rfl)
    have j2 : W2.cell? ⟨w.heap.size + 1, 0, none⟩ = some (.bool false) := by
      rw [← hW2]
      exact World.cell?_setCell_same' _ _ _ (by rw [World.cell?_setCell_other _ _ _ _ (by simp), g3]; rfl)
    have hK' : W2.heap[D]? = some (.deferred (some [])) := by rw [← hW2]; exact ((KeepsOthers.setCell W ⟨w.heap.size, 0, none⟩ (.int .i64 0)).trans (KeepsOthers.setCell _ _ _)).same D _ hK rfl
    have hB2 : Below w.heap.size w W2 := by rw [← hW2]; exact (hB.setCell (p := ⟨w.heap.size, 0, none⟩) (by simp) _).setCell (p := ⟨w.heap.size + 1, 0, none⟩) (by simp) _
    rw [hW2]
    refine ⟨by simp, .inl ⟨_, _, rfl, run_takeDeferred hK', ?_⟩⟩
    have i1 := cell_kept j1 (grownBy_putObj' _ D (.deferred none)) (fun r e => by cases e; exact ⟨_, hK', rfl⟩)
    have i2 := cell_kept j2 (grownBy_putObj' _ D (.deferred none)) (fun r e => by cases e; exact ⟨_, hK', rfl⟩)
    refine ⟨.tuple #[.int .i64 0, .bool false], ?_, by rw [last_none HN.out], hB2.trans (belowK_b (w := w) (Nat.le_refl _) W2 D _ _ (by simp at hD; omega) hK' rfl rfl)⟩
    simp [results, Try.f40, go_sem, i1, i2]
  case stop =>
    rintro D c pre W hD hpre ⟨⟨rfl, q, x, rfl, hq, hx, g1, g2⟩, hB⟩ hK
    have HQ := Lib.hid hq
    clear hq k6 k7 k8 hB0
    gi_wp2
    refine ⟨by simp, .inl ⟨_, _, rfl, run_takeDeferred hK, ?_⟩⟩
    have i1 := cell_kept g1 (grownBy_putObj' _ D (.deferred none)) (fun r e => by cases e; exact ⟨_, hK, rfl⟩)
    have i2 := cell_kept g2 (grownBy_putObj' _ D (.deferred none)) (fun r e => by cases e; exact ⟨_, hK, rfl⟩)
    refine ⟨.tuple #[.int .i64 x.2, .bool true], ?_, by rw [last_some HQ.out hx hpre], hB.trans (belowK_b (w := w) (Nat.le_refl _) W D _ _ (by simp at hD; omega) hK rfl rfl)⟩
    simp [results, Try.f40, go_sem, i1, i2]
end
end Go.Proofs.Ytnpamchdflfboaa
