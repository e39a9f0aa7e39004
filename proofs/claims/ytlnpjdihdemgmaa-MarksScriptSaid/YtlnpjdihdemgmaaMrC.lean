/- The reference's Add, Move, Set. -/
import Derived.Test.YtlnpjdihdemgmaaMrB
import Derived.Laws.OwnMore
namespace Go.Proofs.Ytlnpjdihdemgmaa
open Go.RowKit
set_option linter.unusedVariables false
section
variable {α : Type} {enc : α → List Value} {T E k by_ B : Nat} {z : Value} {w w' : World} {A : Option Addr} {zs xs ys : List α} {v : Value}
theorem cellsL_set (hl : ∀ x, (enc x).length = k) {j : Nat} {u : Value} {y : α} (hj : j < k) : ∀ (xs : List α) (i : Nat) (x : α), xs[i]? = some x → enc y = (enc x).set j u → cellsL enc (xs.set i y) = (cellsL enc xs).set (i * k + j) u
  | [], i, x, h, _ => by simp at h
  | a :: xs, 0, x, h, he => by
    simp at h
    subst h
    rw [List.set_cons_zero, cellsL_cons, cellsL_cons, he, Nat.zero_mul, Nat.zero_add, List.set_append_left _ _ (by rw [hl]; exact hj)]
  | a :: xs, i + 1, x, h, he => by
    have h' : xs[i]? = some x := by simpa using h
    rw [List.set_cons_succ, cellsL_cons, cellsL_cons, cellsL_set hl hj xs i x h' he, List.set_append_right _ _ (by rw [hl, Nat.add_mul]; omega), hl, show (i + 1) * k + j - k = i * k + j by rw [Nat.add_mul]; omega]
/-- A slice of the call's own that is not empty: where it lies. -/
theorem ROwn.lies (I : Elt enc T E k by_ z) (h : ROwn enc E k B w v zs) (hp : 0 < zs.length) : ∃ g cap, v = .slice (some ⟨g, 0, none⟩) zs.length cap ∧ zs.length ≤ cap ∧ cap ≤ maxLen ∧ B ≤ g ∧ g < w.heap.size ∧ (∀ j, j < zs.length * k → w.frozen? ⟨g, j, none⟩ = false) ∧
    ∀ (i : Nat) (x : α) (j : Nat) (u : Value), zs[i]? = some x → (enc x)[j]? = some u → w.cell? ⟨g, i * k + j, none⟩ = some u := by
  have hs := h.shape I
  rcases h.2 with ⟨rfl, h0⟩ | ⟨g, cap, cur, rfl, hb, hg, hnc, hcm, hsz, htk⟩
  · omega
  · refine ⟨g, cap, rfl, hnc, hcm, hb, (Array.getElem?_eq_some_iff.1 hg).1, fun j hj => by simp [World.frozen?, hg], fun i x j u hi hu => ?_⟩
    obtain ⟨A, cp, e, _, _, hR⟩ := hs
    cases e
    obtain ⟨g', o, e, _, hc⟩ := hR.at_ I hi
    cases e
    have := hc j u hu
    rwa [Nat.zero_add] at this
theorem ROwn.put (I : Elt enc T E k by_ z) {g cap : Nat} (h : ROwn enc E k B w (.slice (some ⟨g, 0, none⟩) xs.length cap) xs) {i j : Nat} {x y : α} {u : Value} (hi : xs[i]? = some x) (hj : j < k) (he : enc y = (enc x).set j u) :
    ROwn enc E k B (w.setCell ⟨g, i * k + j, none⟩ u) (.slice (some ⟨g, 0, none⟩) xs.length cap) (xs.set i y) := by
  have := (World.ownsRow.stored h (i * k + j) u).1
  unfold ROwn
  rw [List.length_set, cellsL_set I.len hj xs i x hi he]
  exact this
end
section
variable {B bo : Nat} {v : Value} {m : List (Int × Mk)} {n : Int} {w w' : World}
theorem RefAt.setL {u v' : Value} {m' : List (Int × Mk)} (d0 : w.cell? ⟨bo, 0, none⟩ = some u) (d1 : w.cell? ⟨bo, 1, none⟩ = some (.int .i64 n)) (g0 : w.frozen? ⟨bo, 0, none⟩ = false) (g1 : w.frozen? ⟨bo, 1, none⟩ = false)
    (hown : ROwn encK 47 3 B w v' m') (hlo : bo < B) (hle : B ≤ w.heap.size) : RefAt B (w.setCell ⟨bo, 0, none⟩ v') bo v' m' n :=
  ⟨World.cell?_setCell_same' _ _ _ (by rw [d0]; rfl), by rw [World.cell?_setCell_other _ _ _ _ (by simp)]; exact d1, by rw [World.frozen?_setCell]; exact g0, by rw [World.frozen?_setCell]; exact g1,
   hown.kept fun g hg => Below.heap_setCell _ _ _ _ (fun e => by have := hown.base hg; simp at e; omega), hlo, by simpa [World.setCell] using hle⟩
theorem RefAt.setN (h : RefAt B w bo v m n) (n' : Int) : RefAt B (w.setCell ⟨bo, 1, none⟩ (.int .i64 n')) bo v m n' :=
  ⟨by rw [World.cell?_setCell_other _ _ _ _ (by simp)]; exact h.c0, World.cell?_setCell_same' _ _ _ (by rw [h.c1]; rfl), by rw [World.frozen?_setCell]; exact h.f0, by rw [World.frozen?_setCell]; exact h.f1,
   h.own.kept fun g hg => Below.heap_setCell _ _ _ _ (fun e => by have := h.own.base hg; have := h.lo; simp at e; omega), h.lo, by simpa [World.setCell] using h.le⟩
theorem RefAt.put {g cap : Nat} (h : RefAt B w bo (.slice (some ⟨g, 0, none⟩) m.length cap) m n) (hg : B ≤ g) {i j : Nat} {x y : Int × Mk} {u : Value} (hi : m[i]? = some x) (hj : j < 3) (he : encK y = (encK x).set j u) :
    RefAt B (w.setCell ⟨g, i * 3 + j, none⟩ u) bo (.slice (some ⟨g, 0, none⟩) m.length cap) (m.set i y) n := by
  have hne : bo ≠ g := by have := h.lo; omega
  refine ⟨?_, ?_, by rw [World.frozen?_setCell]; exact h.f0, by rw [World.frozen?_setCell]; exact h.f1, h.own.put eltK hi hj he, h.lo, by simpa [World.setCell] using h.le⟩
  · rw [World.cell?_of_block (w := w) (a := ⟨bo, 0, none⟩) (Below.heap_setCell _ _ _ _ hne)]; exact h.c0
  · rw [World.cell?_of_block (w := w) (a := ⟨bo, 1, none⟩) (Below.heap_setCell _ _ _ _ hne)]; exact h.c1
theorem RefAt.drew (h : RefAt B w bo v m n) : RefAt B w.drew bo v m n := h.kept (Nat.le_refl _) rfl (fun _ _ => rfl)

set_option maxRecDepth 100000 in
set_option maxHeartbeats 2000000 in
theorem radd_all (h : RefAt B w bo v m n) (a : Int) (on : Bool) (hn0 : 0 ≤ n) (hn1 : n ≤ 1000000000) (hl : m.length ≤ 1000000) : Calls Try.prog 47 #[.pointer (some ⟨bo, 0, none⟩), .int .i64 a, .bool on] w (RPost2 B w bo (addR m n a on)) := by
  obtain ⟨A, cp, hv, hA1, hA2, hAs⟩ := h.own.shape eltK
  have c0 := h.c0
  rw [hv] at c0
  unfold addR
  by_cases hp : placeI a = false
  · rw [if_pos hp]
    go_enter Try.func47, Try.ntmps47
    go_wp2_with (go_at_call 61; refine (rplace_any _ _).mono ?_; rintro e w' ⟨rfl, rfl⟩)
    go_ret2
    exact ⟨rfl, _, h, Only.refl _ _⟩
  · rw [if_neg hp]
    have hp' : placeI a = true := by simpa using hp
    clear hp
    by_cases hf : 4096 ≤ m.length
    · rw [if_pos hf]
      have hf' : (4096 : Int) ≤ m.length := by omega
      have H := Lib.hid h
      clear h hAs
      go_enter Try.func47, Try.ntmps47
      go_wp2_with (go_at_call 61; refine (rplace_any _ _).mono ?_; rintro e w' ⟨rfl, rfl⟩)
      go_ret2
      exact ⟨rfl, _, H.out, Only.refl _ _⟩
    · rw [if_neg hf]
      have hf' : (m.length : Int) < 4096 := by omega
      clear hf
      obtain ⟨v', w', happ, hown', hb', ho', _⟩ := append_elem eltK (h.drew.own) h.le (n, (a, on)) (by omega) (by omega)
      rw [hv] at happ
      obtain ⟨A', cp', hv', _, _, _⟩ := hown'.shape eltK
      generalize (m ++ [(n, (a, on))]).length = L' at hv'
      subst hv'
      have hb2 : Below B w w' := (Below.refl B w).drew.trans hb'
      have d0 := (hb2.cell (p := ⟨bo, 0, none⟩) h.lo).trans c0
      have d1 := (hb2.cell (p := ⟨bo, 1, none⟩) h.lo).trans h.c1
      have g0 := (hb2.frozen (p := ⟨bo, 0, none⟩) h.lo).trans h.f0
      have g1 := (hb2.frozen (p := ⟨bo, 1, none⟩) h.lo).trans h.f1
      have hr := (RefAt.setL d0 d1 g0 g1 hown' h.lo (Nat.le_trans h.le hb2.size)).setN (n + 1)
      have ho2 : Only (OwnR bo B) w w' := (Only.refl _ w).drew.trans (ho'.mono fun k hk => .inr (h.own.base hk))
      have C0 : ∀ x : UpW B w, x.w.cell? ⟨bo, 0, none⟩ = some (.slice A m.length cp) := fun x => (x.up.cell (p := ⟨bo, 0, none⟩) h.lo).trans c0
      have C1 : ∀ x : UpW B w, x.w.cell? ⟨bo, 1, none⟩ = some (.int .i64 n) := fun x => (x.up.cell (p := ⟨bo, 1, none⟩) h.lo).trans h.c1
      have HP := Lib.hid happ
      have HR := Lib.hid hr
      have HL := Lib.hid h.le
      clear happ hr hown' hb' ho' hAs h
      go_enter Try.func47, Try.ntmps47
      go_wp2_with (go_at_call 61; refine (rplace_any _ _).mono ?_; rintro e w' ⟨rfl, rfl⟩)
      refine wp_region_mix B 14 [([0, 1, 2, 3, 4, 5, 6, 7, 8, 9, 10, 11], 12), ([], 13)] [] (by kernel_rfl) (fun c d v a w h => by cases d <;> exact h) (by kernel_rfl) ?_
      simp only [wpMix, pk_nil, pk_cons, pushAt_zero, pushAt_succ, List.drop_succ_cons, List.drop_zero]
      repeat (go_big_quiet_step (fail))
      refine wpQuiet_nil ?_
      clear C0 C1
      go_wp2_with fail
      refine thenQ_normal ⟨⟨⟨_, (Below.refl B w).drew.alloc HL.out _⟩, rfl⟩, ?_⟩
      refine wpQuiet_nil ?_
      go_wp2_with (at_builtin; refine wpList_app_run rfl _ _ _ rfl rfl rfl HP.out ?_)
      refine thenQ_normal ⟨⟨⟨_, hb2⟩, rfl⟩, ?_⟩
      refine wpQuiet_nil ?_
      go_wp2_with fail
      go_ret2
      exact ⟨ret_two (by first | omega | (dsimp only; done) | (dsimp only; omega)), _, HR.out, (ho2.setCell (p := ⟨bo, 0, none⟩) (.inl rfl) _).setCell (p := ⟨bo, 1, none⟩) (.inl rfl) _⟩
end
end Go.Proofs.Ytlnpjdihdemgmaa
