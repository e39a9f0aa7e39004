/- copyistkit.Own, Same at strings; the reference's ring: New, Kill. -/
import Derived.Test.YtaofcnmajicpcaaGreatDoorKrH
namespace Go.Proofs.YtaofcnmajicpcaaGreatDoor
open Go.RowKit
set_option linter.unusedVariables false
set_option linter.unusedSimpArgs false
section
variable {w w' : World} {b : Nat} {L : List ByteArray} {most at_ : Nat} {A A' : Option Addr}
set_option maxHeartbeats 1000000 in
theorem own_any (h : RSl encS w A L) (c : Nat) (hl : L.length ≤ 1000000) : Calls Tryz.prog 35 #[.slice A L.length c] w (SlPost w L) := by
  have h0 := ROwn.empty (enc := encS) (E := 9) (k := 1) w.heap.size w (Nat.le_refl _)
  obtain ⟨v', w', happ, hown', hg, _⟩ := append_run eltS h0 (by simp) (h.up (below1 _ _)) c (by simp; omega) (by omega)
  have HP := Lib.hid happ
  clear happ
  go_enter Tryz.func35, Tryz.ntmps35
  go_wp2_with (at_builtin; refine wpList_app_run rfl _ _ _ rfl rfl rfl HP.out ?_)
  go_ret
  exact ⟨_, rfl, by simpa using hown', (below1 _ _).grown hg (by simp) (fun k hk => h0.base hk)⟩
set_option maxRecDepth 100000 in
set_option maxHeartbeats 1000000 in
theorem sameS_true (c c' : Nat) (h : RSl encS w A L) (h' : RSl encS w A' L) (hl : L.length ≤ 1000000) :
    Calls Tryz.prog 19 #[.slice A L.length c, .slice A' L.length c'] w fun e w' => e = .returned (.bool true) ∧ Below w.heap.size w w' := by
  have hne : ((L.length : Int) != (L.length : Int)) = false := by simp
  go_enter Tryz.func19, Tryz.ntmps19
  go_wp2
  clear hne
  go_loopw [5] (fun vi wr => ∃ k : Nat, k ≤ L.length ∧ vi = .int .i64 k ∧ Below w.heap.size w wr) (fun vi _ => L.length - (intOf vi).toNat)
  case atStart => exact ⟨0, by omega, rfl, Below.refl _ _⟩
  case round =>
    obtain ⟨k, hk, rfl, hbel⟩ := hrel
    by_cases hlt : k < L.length
    · obtain ⟨s, hx⟩ : ∃ x, L[k]? = some x := ⟨_, List.getElem?_eq_getElem hlt⟩
      obtain ⟨g, o, rfl, hg, hc⟩ := (h.up hbel).at_ eltS hx
      obtain ⟨g', o', rfl, hg', hc'⟩ := (h'.up hbel).at_ eltS hx
      have c0 := hc 0 _ rfl
      have d0 := hc' 0 _ rfl
      simp only [Nat.mul_one, Nat.add_zero] at c0 d0
      have hlt' : (k : Int) < L.length := by omega
      clear hc hc' hx
      go_wp2
      go_quiet (fail)
      go_wp2
      go_roundw
      case rel => exact ⟨k + 1, by omega, by go_num, ⟨hbel.os, hbel.tape, hbel.output, hbel.size, hbel.block⟩⟩
      case measure => simp [intOf]; omega
    · have hkn : k = L.length := by omega
      subst hkn
      go_wp2
      go_ret
      exact ⟨rfl, hbel⟩

/-- The reference's ring: its slice v of strings L, the index of the current one, the capacity. -/
structure RRing (w : World) (b : Nat) (v : Value) (L : List ByteArray) (most at_ : Nat) : Prop where
  c0 : w.cell? ⟨b, 0, none⟩ = some v
  c1 : w.cell? ⟨b, 1, none⟩ = some (.int .i64 at_)
  c2 : w.cell? ⟨b, 2, none⟩ = some (.int .i64 most)
  fz : ∀ i, i < 3 → w.frozen? ⟨b, i, none⟩ = false
  own : ROwn encS 9 1 (b + 1) w v L
  hn : L.length ≤ most
  hm0 : 1 ≤ most
  hm1 : most ≤ 60
  hat : at_ < L.length ∨ at_ = 0
variable {v : Value}
theorem RRing.lt (h : RRing w b v L most at_) : b < w.heap.size := lt_of_cell h.c1
theorem RRing.ne (h : RRing w b v L most at_) {g : Nat} (hg : v.ownBlock = some g) : g ≠ b ∧ b < g := by have := h.own.base hg; omega
theorem RRing.kept (h : RRing w b v L most at_) (hb : w'.heap[b]? = w.heap[b]?) (hv : ∀ g, v.ownBlock = some g → w'.heap[g]? = w.heap[g]?) : RRing w' b v L most at_ :=
  ⟨(World.cell?_of_block (w := w) (a := ⟨b, 0, none⟩) hb).trans h.c0, (World.cell?_of_block (w := w) (a := ⟨b, 1, none⟩) hb).trans h.c1, (World.cell?_of_block (w := w) (a := ⟨b, 2, none⟩) hb).trans h.c2,
   fun i hi => (World.frozen?_of_block (w := w) (a := ⟨b, i, none⟩) hb).trans (h.fz i hi), h.own.kept hv, h.hn, h.hm0, h.hm1, h.hat⟩
theorem RRing.up (h : RRing w b v L most at_) (hb : Below w.heap.size w w') : RRing w' b v L most at_ := h.kept (hb.block b h.lt) (fun g hg => hb.block g (h.own.lt hg))
theorem heap_set_other (w : World) (b o : Nat) (u : Value) (k : Nat) (h : k ≠ b) : (w.setCell ⟨b, o, none⟩ u).heap[k]? = w.heap[k]? := Below.heap_setCell _ _ _ _ (fun e => h e)
theorem RRing.setAt (h : RRing w b v L most at_) (k : Nat) (hk : k < L.length ∨ k = 0) : RRing (w.setCell ⟨b, 1, none⟩ (.int .i64 k)) b v L most k := by
  refine ⟨?_, ?_, ?_, fun i hi => by rw [World.frozen?_setCell]; exact h.fz i hi, h.own.kept fun g hg => heap_set_other _ _ _ _ _ (h.ne hg).1, h.hn, h.hm0, h.hm1, hk⟩
  · rw [World.cell?_setCell_other _ _ _ _ (by simp)]; exact h.c0
  · exact World.cell?_setCell_same' _ _ _ (by rw [h.c1]; rfl)
  · rw [World.cell?_setCell_other _ _ _ _ (by simp)]; exact h.c2
theorem RRing.setL (h : RRing w b v L most at_) (v' : Value) (L' : List ByteArray) (hown : ROwn encS 9 1 (b + 1) w v' L') (hn : L'.length ≤ most) (hat : at_ < L'.length ∨ at_ = 0) : RRing (w.setCell ⟨b, 0, none⟩ v') b v' L' most at_ := by
  refine ⟨?_, ?_, ?_, fun i hi => by rw [World.frozen?_setCell]; exact h.fz i hi, hown.kept fun g hg => heap_set_other _ _ _ _ _ (by have := hown.base hg; omega), hn, h.hm0, h.hm1, hat⟩
  · exact World.cell?_setCell_same' _ _ _ (by rw [h.c0]; rfl)
  · rw [World.cell?_setCell_other _ _ _ _ (by simp)]; exact h.c1
  · rw [World.cell?_setCell_other _ _ _ _ (by simp)]; exact h.c2
theorem ROwn.take {B : Nat} {A : Option Addr} {n c : Nat} (h : ROwn encS 9 1 B w (.slice A n c) L) (k : Nat) (hk : k ≤ L.length) : ROwn encS 9 1 B w (.slice A k c) (L.take k) := by
  have hlen : (L.take k).length = k := by simp; omega
  rcases h.2 with ⟨e, h0⟩ | ⟨g, cap, cur, e, hb, hg, hnc, hcm, hsz, htk⟩
  · cases e
    have : L = [] := List.eq_nil_of_length_eq_zero h0
    subst this
    obtain rfl : k = 0 := by simpa using hk
    exact ROwn.nil _ _
  · cases e
    refine ⟨by rw [cellsL_length eltS.len], .inr ⟨g, c, cur, by rw [hlen], hb, hg, by rw [hlen]; omega, hcm, hsz, ?_⟩⟩
    rw [hlen, cellsL_take eltS.len L k hk, Nat.mul_one, ← htk, List.take_take]
    congr 1; omega
def RPost (w : World) (b : Nat) (v : Value) (L : List ByteArray) (most at_ err : Nat) (e : Ending) (w' : World) : Prop :=
  e = .returned (.int .i64 err) ∧ ∃ v', RRing w' b v' L most at_ ∧ Only (fun k => k = b ∨ v.ownBlock = some k) w w' ∧ (v'.ownBlock = v.ownBlock ∨ ∀ g, v'.ownBlock = some g → w.heap.size ≤ g)
theorem ownBlock_le {v' : Value} {n : Nat} {o : Option Nat} (hv : v'.ownBlock = o ∨ v'.ownBlock = some n) {m : Nat} (ho : ∀ g, o = some g → m ≤ g) (hn : m ≤ n) : ∀ g, v'.ownBlock = some g → m ≤ g := fun g hg => by
  rcases hv with h | h
  · exact ho g (h ▸ hg)
  · rw [h] at hg; cases hg; exact hn
theorem ROwn.fresh {B : Nat} (h : ROwn encS 9 1 B w v L) {n : Nat} (hn : ∀ g, v.ownBlock = some g → n ≤ g) : ROwn encS 9 1 n w v L := by
  refine ⟨h.1, ?_⟩
  rcases h.2 with h0 | ⟨g, cap, cur, rfl, hb, r⟩
  · exact .inl h0
  · exact .inr ⟨g, cap, cur, rfl, hn g rfl, r⟩
theorem RRing.two {u0 u1 : Value} {k : Nat} (c0 : w.cell? ⟨b, 0, none⟩ = some u0) (c1 : w.cell? ⟨b, 1, none⟩ = some u1) (c2 : w.cell? ⟨b, 2, none⟩ = some (.int .i64 most)) (fz : ∀ i, i < 3 → w.frozen? ⟨b, i, none⟩ = false)
    (own : ROwn encS 9 1 (b + 1) w v L) (hn : L.length ≤ most) (hm0 : 1 ≤ most) (hm1 : most ≤ 60) (hk : k < L.length ∨ k = 0) : RRing ((w.setCell ⟨b, 0, none⟩ v).setCell ⟨b, 1, none⟩ (.int .i64 k)) b v L most k := by
  refine ⟨?_, ?_, ?_, fun i hi => by rw [World.frozen?_setCell, World.frozen?_setCell]; exact fz i hi, (own.kept fun g hg => heap_set_other _ _ _ _ _ (by have := own.base hg; omega)).kept fun g hg => heap_set_other _ _ _ _ _ (by have := own.base hg; omega), hn, hm0, hm1, hk⟩
  · rw [World.cell?_setCell_other _ _ _ _ (by simp)]; exact World.cell?_setCell_same' _ _ _ (by rw [c0]; rfl)
  · exact World.cell?_setCell_same' _ _ _ (by rw [World.cell?_setCell_other _ _ _ _ (by simp), c1]; rfl)
  · rw [World.cell?_setCell_other _ _ _ _ (by simp), World.cell?_setCell_other _ _ _ _ (by simp)]; exact c2
theorem Only.setS {S : Nat → Prop} {a c : World} {b : Nat} (h : Only S a c) (hb : S b) (o : Nat) (u : Value) : Only S a (c.setCell ⟨b, o, none⟩ u) := h.setCell (p := ⟨b, o, none⟩) (show S (⟨b, o, none⟩ : Addr).block from hb) u
end
end Go.Proofs.YtaofcnmajicpcaaGreatDoor
