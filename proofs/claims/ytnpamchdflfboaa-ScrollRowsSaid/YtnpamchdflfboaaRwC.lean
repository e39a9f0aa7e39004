/- copyistkit.CopyRows. -/
import Derived.Test.YtnpamchdflfboaaRwB
namespace Go.Proofs.Ytnpamchdflfboaa
open Go.RowKit
set_option linter.unusedVariables false
set_option linter.unusedSimpArgs false
section
variable {w w' : World} {A A' : Option Addr} {l l' : List RowE}
theorem RSl.only {α : Type} {enc : α → List Value} {S : Nat → Prop} {xs : List α} (h : RSl enc w A xs) (ho : Only S w w') (hs : 0 < xs.length → ∀ g o, A = some ⟨g, o, none⟩ → ¬ S g) : RSl enc w' A xs := fun hp => by
  obtain ⟨g, o, e, hg, hc⟩ := h hp
  exact ⟨g, o, e, Nat.lt_of_lt_of_le hg ho.size, fun j u hu => (World.cell?_of_block (w := w) (a := ⟨g, o + j, none⟩) (ho.block g hg (hs hp g o e))).trans (hc j u hu)⟩
theorem RSl.set {α : Type} {enc : α → List Value} {xs : List α} (h : RSl enc w A xs) (b i : Nat) (u : Value) (hs : 0 < xs.length → ∀ g o, A = some ⟨g, o, none⟩ → g ≠ b) : RSl enc (w.setCell ⟨b, i, none⟩ u) A xs :=
  h.only (S := fun x => x = b) ((Only.refl (fun x => x = b) w).setCell (p := ⟨b, i, none⟩) rfl u) (fun hp g o he e => hs hp g o he e)
theorem set_below {n : Nat} {a : World} (h : Below n a w) (b i : Nat) (u : Value) (hb : n ≤ b) : Below n a (w.setCell ⟨b, i, none⟩ u) := h.setCell (p := ⟨b, i, none⟩) hb u
/-- A row whose slices lie apart from block b, and below n. -/
structure Apart (w : World) (v : Value) (e : RowE) : Prop where
  inn : InE w e
  a1 : 0 < e.cs.length → ∀ g o, e.A1 = some ⟨g, o, none⟩ → v.ownBlock ≠ some g
  a2 : 0 < e.ps.length → ∀ g o, e.A2 = some ⟨g, o, none⟩ → v.ownBlock ≠ some g
theorem RSl.lt {α : Type} {enc : α → List Value} {xs : List α} (h : RSl enc w A xs) (hp : 0 < xs.length) {g o : Nat} (e : A = some ⟨g, o, none⟩) : g < w.heap.size := by
  obtain ⟨g', o', e', hg, _⟩ := h hp
  rw [e] at e'; cases e'; exact hg
theorem Apart.next {v v' : Value} {e : RowE} (h : Apart w v e) (ho : Only (fun g => v.ownBlock = some g) w w') (hv : v'.ownBlock = v.ownBlock ∨ ∃ g, v'.ownBlock = some g ∧ w.heap.size ≤ g) : Apart w' v' e := by
  refine ⟨⟨h.inn.i1.only ho (fun hp g o he => h.a1 hp g o he), h.inn.i2.only ho (fun hp g o he => h.a2 hp g o he), h.inn.l1, h.inn.l2, h.inn.m1, h.inn.m2⟩, fun hp g o he hg => ?_, fun hp g o he hg => ?_⟩
  · rcases hv with hv | ⟨g', hv, hn⟩
    · exact h.a1 hp g o he (hv ▸ hg)
    · have := h.inn.i1.lt hp he; rw [hv] at hg; cases hg; omega
  · rcases hv with hv | ⟨g', hv, hn⟩
    · exact h.a2 hp g o he (hv ▸ hg)
    · have := h.inn.i2.lt hp he; rw [hv] at hg; cases hg; omega
theorem Apart.up {v : Value} {e : RowE} (h : Apart w v e) (hb : Below w.heap.size w w') : Apart w' v e := ⟨h.inn.up hb, h.a1, h.a2⟩
theorem SameL.snoc {k : Nat} {e e' : RowE} (h : SameL (l.take k) l') (hx : l[k]? = some e) (hs : SameE e e') : SameL (l.take (k + 1)) (l' ++ [e']) := by
  have hk := (List.getElem?_eq_some_iff.1 hx).1
  have htk : l.take (k + 1) = l.take k ++ [e] := by rw [List.take_succ_eq_append_getElem hk]; congr 2; exact (List.getElem?_eq_some_iff.1 hx).2
  have hlen := h.len
  refine ⟨by rw [htk, List.length_append, List.length_append, hlen]; rfl, fun j a b ha hb => ?_⟩
  rw [htk] at ha
  rw [List.length_take, Nat.min_eq_left (by omega)] at hlen
  rcases Nat.lt_or_ge j k with hj | hj
  · rw [List.getElem?_append_left (by rw [List.length_take]; omega)] at ha
    rw [List.getElem?_append_left (by omega)] at hb
    exact h.at_ j a b ha hb
  · rw [List.getElem?_append_right (by rw [List.length_take]; omega), List.length_take, Nat.min_eq_left (by omega)] at ha
    rw [List.getElem?_append_right (by omega), ← hlen] at hb
    rcases Nat.eq_zero_or_pos (j - k) with h0 | h0
    · rw [h0] at ha hb; simp at ha hb; subst ha hb; exact hs
    · obtain ⟨m, hm⟩ : ∃ m, j - k = m + 1 := ⟨j - k - 1, by omega⟩
      rw [hm] at ha; simp at ha
def CopyPost (w : World) (l : List RowE) (e : Ending) (w' : World) : Prop := ∃ A c l', e = .returned (.slice A l'.length c) ∧ l'.length ≤ c ∧ c ≤ maxLen ∧ RowsAt w' A l' ∧ SameL l l' ∧ Below w.heap.size w w'
theorem row_cells (w : World) (b : Nat) (c : Array Value) (T : TypeId) (hb : w.heap[b]? = some (.cells c T (0, 0))) (j : Nat) : w.cell? ⟨b, j, none⟩ = c[j]? ∧ w.frozen? ⟨b, j, none⟩ = false := by
  constructor
  · simp [World.cell?, hb]
  · simp [World.frozen?, hb]
set_option maxRecDepth 100000 in
set_option maxHeartbeats 4000000 in
theorem copy_any (c : Nat) (h : RowsAt w A l) (hl : l.length ≤ 1000000) (hb : ∀ e ∈ l, e.cs.length ≤ 1000000 ∧ e.ps.length ≤ 1000000) :
    Calls Try.prog 21 #[.slice A l.length c] w (CopyPost w l) := by
  go_enter Try.func21, Try.ntmps21
  go_wp2_with fail
  go_loopw [3, 4] (fun vo vi wr => ∃ (k : Nat) (lk : List RowE), k ≤ l.length ∧ vi = .int .i64 k ∧ ROwn encR 40 5 w.heap.size wr vo lk ∧ SameL (l.take k) lk ∧ (∀ e ∈ lk, Apart wr vo e) ∧ Below w.heap.size w wr) (fun _ vi _ => l.length - (intOf vi).toNat)
  case atStart => exact ⟨0, [], by omega, rfl, ROwn.nil _ _, ⟨rfl, fun k a b h _ => by simp at h⟩, by simp, Below.refl _ _⟩
  case round =>
    obtain ⟨k, lk, hk, rfl, hown, hsl, hap, hbel⟩ := hrel
    obtain ⟨A3, c3, rfl, hF1, hF2, hF3⟩ := hown.shape eltR
    by_cases hlt : k < l.length
    · obtain ⟨e, hx⟩ : ∃ x, l[k]? = some x := ⟨_, List.getElem?_eq_getElem hlt⟩
      have hI := (h.up hbel).2 e (List.mem_of_getElem? hx)
      obtain ⟨hb1, hb2⟩ := hb e (List.mem_of_getElem? hx)
      obtain ⟨g, o, rfl, hg, hcg⟩ := (h.up hbel).1.at_ eltR hx
      have hlk : lk.length ≤ 1000000 := by have := hsl.len; rw [List.length_take] at this; omega
      have HX := Lib.hid hx
      obtain ⟨A1, c1, cs, A2, c2, ps, fr, to, co⟩ := e
      dsimp only at hb1 hb2
      have k0 : wr.cell? ⟨g, o + k * 5, none⟩ = some (.slice A1 cs.length c1) := hcg 0 _ rfl
      have k1 : wr.cell? ⟨g, o + k * 5 + 1, none⟩ = some (.slice A2 ps.length c2) := hcg 1 _ rfl
      have k2 : wr.cell? ⟨g, o + k * 5 + 2, none⟩ = some (.int .i64 fr) := hcg 2 _ rfl
      have k3 : wr.cell? ⟨g, o + k * 5 + 3, none⟩ = some (.int .i64 to) := hcg 3 _ rfl
      have k4 : wr.cell? ⟨g, o + k * 5 + 4, none⟩ = some (.bool co) := hcg 4 _ rfl
      have hlt' : (k : Int) < l.length := by omega
      have i1 := hI.i1
      have i2 := hI.i2
      dsimp only at i1 i2
      -- the copy of the row, and of its cells
      obtain ⟨W1, hW1⟩ : ∃ W1, wr.alloc (.cells #[.slice A1 cs.length c1, .slice A2 ps.length c2, .int .i64 fr, .int .i64 to, .bool co] 40) = W1 := ⟨_, rfl⟩
      have hbW1 : Below wr.heap.size wr W1 := hW1 ▸ below1 wr _
      have hsW1 : W1.heap.size = wr.heap.size + 1 := by rw [← hW1]; simp
      have hrow1 : W1.heap[wr.heap.size]? = some (.cells #[.slice A1 cs.length c1, .slice A2 ps.length c2, .int .i64 fr, .int .i64 to, .bool co] 40 (0, 0)) := hW1 ▸ (MapKept.heap_alloc wr _).1
      have own0 := ROwn.empty (enc := encC) (E := 70) (k := 6) W1.heap.size W1 (Nat.le_refl _)
      obtain ⟨v1, W3, happ1, hown1, hg1, _⟩ := append_run eltC own0 (by simp) (i1.up (up2 hbW1 (below1 _ _))) c1 (by simp; omega) (by omega)
      have hbW3 : Below W1.heap.size W1 W3 := (below1 _ _).grown hg1 (by simp) (fun j hj => own0.base hj)
      rw [List.nil_append] at hown1
      obtain ⟨B1, d1, rfl, hD1, hD2, hD3⟩ := hown1.shape eltC
      have hrow3 := (hbW3.block wr.heap.size (by omega)).trans hrow1
      have hsW3 := hbW3.size
      obtain ⟨W4, hW4⟩ : ∃ W4, W3.setCell ⟨wr.heap.size, 0, none⟩ (.slice B1 cs.length d1) = W4 := ⟨_, rfl⟩
      have hsW4 : W4.heap.size = W3.heap.size := by rw [← hW4]; simp [World.setCell]
      have hrow4 : W4.heap[wr.heap.size]? = some (.cells #[.slice B1 cs.length d1, .slice A2 ps.length c2, .int .i64 fr, .int .i64 to, .bool co] 40 (0, 0)) := by
        rw [← hW4]; simp [World.setCell, Array.getElem?_modify, hrow3]
      have hb4 : Below wr.heap.size wr W4 := hW4 ▸ set_below (hbW1.trans (hbW3.mono (by omega))) _ _ _ (Nat.le_refl _)
      have own4 := ROwn.empty (enc := encI) (E := 3) (k := 1) W4.heap.size W4 (Nat.le_refl _)
      obtain ⟨v2, W6, happ2, hown2, hg2, _⟩ := append_run eltI own4 (by simp) (i2.up (up2 hb4 (below1 _ _))) c2 (by simp; omega) (by omega)
      have hbW6 : Below W4.heap.size W4 W6 := (below1 _ _).grown hg2 (by simp) (fun j hj => own4.base hj)
      rw [List.nil_append] at hown2
      obtain ⟨B2, d2, rfl, hE1, hE2, hE3⟩ := hown2.shape eltI
      have hrow6 := (hbW6.block wr.heap.size (by omega)).trans hrow4
      have hsW6 := hbW6.size
      obtain ⟨W7, hW7⟩ : ∃ W7, W6.setCell ⟨wr.heap.size, 1, none⟩ (.slice B2 ps.length d2) = W7 := ⟨_, rfl⟩
      have hrow7 : W7.heap[wr.heap.size]? = some (.cells #[.slice B1 cs.length d1, .slice B2 ps.length d2, .int .i64 fr, .int .i64 to, .bool co] 40 (0, 0)) := by
        rw [← hW7]; simp [World.setCell, Array.getElem?_modify, hrow6]
      have hb7 : Below wr.heap.size wr W7 := hW7 ▸ set_below (hb4.trans (hbW6.mono (by omega))) _ _ _ (Nat.le_refl _)
      have r1 : RSl encC W7 B1 cs := by
        have h4 : RSl encC W4 B1 cs := hW4 ▸ hD3.set _ _ _ (fun _ g o he => by subst he; have := hown1.base (g := g) rfl; omega)
        exact hW7 ▸ (h4.up hbW6).set _ _ _ (fun _ g o he => by subst he; have := hown1.base (g := g) rfl; omega)
      have r2 : RSl encI W7 B2 ps := hW7 ▸ hE3.set _ _ _ (fun _ g o he => by subst he; have := hown2.base (g := g) rfl; omega)
      have hap' : Apart W7 (.slice A3 lk.length c3) ⟨B1, d1, cs, B2, d2, ps, fr, to, co⟩ := ⟨⟨r1, r2, hD1, hE1, hD2, hE2⟩,
        fun _ g o he hg => by dsimp only at he; subst he; have := hown1.base (g := g) rfl; have := hown.lt hg; omega,
        fun _ g o he hg => by dsimp only at he; subst he; have := hown2.base (g := g) rfl; have := hown.lt hg; omega⟩
      obtain ⟨v3, W8, happ3, hown3, hb8, ho8, hv8⟩ := append_elem eltR (hown.up hb7) (Nat.le_trans hbel.size hb7.size) ⟨B1, d1, cs, B2, d2, ps, fr, to, co⟩ (by omega) (by omega)
      have hsame : SameE ⟨A1, c1, cs, A2, c2, ps, fr, to, co⟩ ⟨B1, d1, cs, B2, d2, ps, fr, to, co⟩ := ⟨rfl, rfl, rfl, rfl, rfl⟩
      have hsl' := hsl.snoc HX.out hsame
      have hap8 : ∀ e ∈ lk ++ [⟨B1, d1, cs, B2, d2, ps, fr, to, co⟩], Apart W8 v3 e := fun e he => by
        rcases List.mem_append.1 he with he | he
        · exact ((hap e he).up hb7).next ho8 hv8
        · rw [List.mem_singleton.1 he]; exact hap'.next ho8 hv8
      have q3 := row_cells W3 wr.heap.size _ _ hrow3
      have q6 := row_cells W6 wr.heap.size _ _ hrow6
      have q7 := row_cells W7 wr.heap.size _ _ hrow7
      have p30 : W3.cell? ⟨wr.heap.size, 0, none⟩ = some (.slice A1 cs.length c1) := (q3 0).1
      have p31 : W3.cell? ⟨wr.heap.size, 1, none⟩ = some (.slice A2 ps.length c2) := (q3 1).1
      have z30 := (q3 0).2
      have p61 : W6.cell? ⟨wr.heap.size, 1, none⟩ = some (.slice A2 ps.length c2) := (q6 1).1
      have z61 := (q6 1).2
      have p70 : W7.cell? ⟨wr.heap.size, 0, none⟩ = some (.slice B1 cs.length d1) := (q7 0).1
      have p71 : W7.cell? ⟨wr.heap.size, 1, none⟩ = some (.slice B2 ps.length d2) := (q7 1).1
      have p72 : W7.cell? ⟨wr.heap.size, 2, none⟩ = some (.int .i64 fr) := (q7 2).1
      have p73 : W7.cell? ⟨wr.heap.size, 3, none⟩ = some (.int .i64 to) := (q7 3).1
      have p74 : W7.cell? ⟨wr.heap.size, 4, none⟩ = some (.bool co) := (q7 4).1
      have p41 : W4.cell? ⟨wr.heap.size, 1, none⟩ = some (.slice A2 ps.length c2) := (row_cells W4 wr.heap.size _ _ hrow4 1).1
      have l3 : wr.heap.size < W3.heap.size := by omega
      have l6 : wr.heap.size < W6.heap.size := by omega
      have hsW7 : W7.heap.size = W6.heap.size := by rw [← hW7]; simp [World.setCell]
      rw [hsW1, ← hW1] at happ1
      rw [hsW4, ← hW4] at happ2
      rw [hsW7, ← hW7] at happ3
      rw [← hW4] at p41
      rw [← hW7] at p70 p71 p72 p73 p74
      have HP1 := Lib.hid happ1
      have HP2 := Lib.hid happ2
      have HP3 := Lib.hid happ3
      have HAP := Lib.hid hap8
      have HSL := Lib.hid hsl'
      have HOW := Lib.hid hown3
      have HB8 := Lib.hid ((hbel.trans (hb7.mono hbel.size)).trans hb8)
      have HW1 := Lib.hid hW1
      have HW4 := Lib.hid hW4
      have HW7 := Lib.hid hW7
      clear q3 q6 q7 happ1 happ2 happ3 hap8 hsl' hown3 hb8 ho8 hv8 hap hap' r1 r2 hrow1 hrow3 hrow4 hrow6 hrow7 hW4 hW7 hb4 hb7 hbW6 hbW3 hbW1 hg1 hg2 hown1 hown2 own0 own4 hD3 hE3 i1 i2 hI hcg hsl hown hsW4 hsW6 hsW3 hsW1 hsW7 hsame hx hW1
      go_wp2_with (first | (at_builtin; refine wpList_app_run rfl _ _ _ rfl rfl rfl HP1.out ?_) | (at_builtin; refine wpList_app_run rfl _ _ _ rfl rfl rfl HP2.out ?_) | (at_builtin; refine wpList_app_run rfl _ _ _ rfl rfl rfl HP3.out ?_))
      go_roundw
      case rel => exact ⟨k + 1, _, by omega, by go_num, HOW.out, HSL.out, HAP.out, HB8.out⟩
      case measure => simp [intOf]; omega
    · have hkn : k = l.length := by omega
      subst hkn
      rw [List.take_length] at hsl
      go_wp2_with fail
      go_ret
      exact ⟨A3, c3, lk, rfl, hF1, hF2, ⟨hF3, fun e he => (hap e he).inn⟩, hsl, hbel⟩
end
end Go.Proofs.Ytnpamchdflfboaa
